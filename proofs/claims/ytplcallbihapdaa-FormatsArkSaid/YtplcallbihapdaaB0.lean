/-
  Attributes alike, exactly.
-/
import Derived.Test.YtplcallbihapdaaA0
set_option linter.unusedVariables false
set_option linter.unusedSimpArgs false
namespace Go.Proofs.Ytplcallbihapdaa.Dg
open Go Go.RowKit
set_option maxRecDepth 20000
def E20 (q : Nat) (rl : List T54) (rm : Nat) (rx : Bool) (ea : Option Ad) (el : List T54) (ec : Nat) (d4 : V) (d5 : V) (i : Int) (d15 : V) (d16 : V) (d17 : V) (d18 : V) (d19 : V) (d20 : V) (d21 : V) (d22 : V) (d23 : V) (d24 : V) (d25 : V) (d26 : V) (d27 : V) (d28 : V) (d29 : V) (d30 : V) (d31 : V) (d32 : V) : List V := (.slice (some (.new q 0)) rl.length rm rx :: .slice ea el.length ec true :: U :: U :: d4 :: d5 :: .slice (some (.new q 0)) rl.length rm rx :: .int .i64 ((rl.length : Int)) :: .slice ea el.length ec true :: .int .i64 ((el.length : Int)) :: .bool (!(((rl.length : Int)) == ((el.length : Int)))) :: .slice (some (.new q 0)) rl.length rm rx :: .int .i64 ((rl.length : Int)) :: .int .i64 i :: .bool (decide (i < ((rl.length : Int)))) :: d15 :: d16 :: d17 :: d18 :: d19 :: d20 :: d21 :: d22 :: d23 :: d24 :: d25 :: d26 :: d27 :: d28 :: d29 :: d30 :: d31 :: d32 :: [])
def E21 (q : Nat) (rl : List T54) (rm : Nat) (rx : Bool) (ea : Option Ad) (el : List T54) (ec : Nat) (d4 : V) (i : Int) (d21 : V) (d22 : V) (d23 : V) (d24 : V) (d25 : V) (d26 : V) (d27 : V) (d28 : V) (d29 : V) (d30 : V) (d31 : V) (d32 : V) : List V := (.slice (some (.new q 0)) rl.length rm rx :: .slice ea el.length ec true :: U :: U :: d4 :: .int .i64 i :: .slice (some (.new q 0)) rl.length rm rx :: .int .i64 ((rl.length : Int)) :: .slice ea el.length ec true :: .int .i64 ((el.length : Int)) :: .bool (!(((rl.length : Int)) == ((el.length : Int)))) :: .slice (some (.new q 0)) rl.length rm rx :: .int .i64 ((rl.length : Int)) :: .int .i64 i :: .bool (decide (i < ((rl.length : Int)))) :: .int .i64 i :: .slice ea el.length ec true :: .slice (some (.new q 0)) rl.length rm rx :: .int .i64 i :: .ptr (some (.new q (0 + i.toNat * 2))) :: .agg [.str ((gt rl i).fName), .str ((gt rl i).fValue)] :: d21 :: d22 :: d23 :: d24 :: d25 :: d26 :: d27 :: d28 :: d29 :: d30 :: d31 :: d32 :: [])
def E22 (ea : Option Ad) (el : List T54) (ec : Nat) (rl : List T54) (i : Int) (p102 : Nat) : List V := [.slice ea el.length ec true, .agg [.str ((gt rl i).fName), .str ((gt rl i).fValue)], U, .ptr (some (.new p102 0)), .bool false, .slice ea el.length ec true, U, U, U]
def E23 (q : Nat) (rl : List T54) (rm : Nat) (rx : Bool) (ea : Option Ad) (el : List T54) (ec : Nat) (d4 : V) (i : Int) (kz107 : Int) (d29 : V) (d30 : V) (d31 : V) (d32 : V) : List V := (.slice (some (.new q 0)) rl.length rm rx :: .slice ea el.length ec true :: U :: U :: d4 :: .int .i64 i :: .slice (some (.new q 0)) rl.length rm rx :: .int .i64 ((rl.length : Int)) :: .slice ea el.length ec true :: .int .i64 ((el.length : Int)) :: .bool (!(((rl.length : Int)) == ((el.length : Int)))) :: .slice (some (.new q 0)) rl.length rm rx :: .int .i64 ((rl.length : Int)) :: .int .i64 i :: .bool (decide (i < ((rl.length : Int)))) :: .int .i64 i :: .slice ea el.length ec true :: .slice (some (.new q 0)) rl.length rm rx :: .int .i64 i :: .ptr (some (.new q (0 + i.toNat * 2))) :: .agg [.str ((gt rl i).fName), .str ((gt rl i).fValue)] :: .bool (decide (kz107 ≥ 0)) :: .bool (!(decide (kz107 ≥ 0))) :: .bool false :: .slice (some (.new q 0)) rl.length rm rx :: .slice ea el.length ec true :: .int .i64 i :: .ptr (some ((adr ea).add (i.toNat * 2))) :: .agg [.str ((gt el i).fName), .str ((gt el i).fValue)] :: d29 :: d30 :: d31 :: d32 :: [])
def E24 (q : Nat) (rl : List T54) (rm : Nat) (rx : Bool) (el : List T54) (i : Int) (p109 : Nat) : List V := [.slice (some (.new q 0)) rl.length rm rx, .agg [.str ((gt el i).fName), .str ((gt el i).fValue)], U, .ptr (some (.new p109 0)), .bool false, .slice (some (.new q 0)) rl.length rm rx, U, U, U]
theorem sm_loop {W : World} {q : Nat} {ea : Option Ad} {rl el : List T54} {rm ec : Nat} {rx : Bool} {h0 : H} (hA : Arr W 2 T54.cells ea el) (hb : el.length * 32 ≤ 140737488351232) (lq : q < h0.nx) (hq : h0.get q = some (.cells (rv T54.cells rl) 54)) (hl9 : rl.length = el.length) (n : Nat) : ∀ (i : Int) (h : H) (d4 d5 d14 d15 d16 d17 d18 d19 d20 d21 d22 d23 d24 d25 d26 d27 d28 d29 d30 d31 d32 : V), n = ((rl.length : Int) - i).toNat → (0 ≤ i) → (i ≤ (rl.length : Int)) → (HX h0 h) → (sameL rl el = smFrom rl el i) → WpM Try.prog W prim1 ⟨.code x23_13, [.loop x23_13, .blk 0, .seq x23_27], (.slice (some (.new q 0)) rl.length rm rx :: .slice ea el.length ec true :: U :: U :: d4 :: d5 :: .slice (some (.new q 0)) rl.length rm rx :: .int .i64 ((rl.length : Int)) :: .slice ea el.length ec true :: .int .i64 ((el.length : Int)) :: .bool (!(((rl.length : Int)) == ((el.length : Int)))) :: .slice (some (.new q 0)) rl.length rm rx :: .int .i64 ((rl.length : Int)) :: .int .i64 i :: d14 :: d15 :: d16 :: d17 :: d18 :: d19 :: d20 :: d21 :: d22 :: d23 :: d24 :: d25 :: d26 :: d27 :: d28 :: d29 :: d30 :: d31 :: d32 :: []), [], h, none⟩ (retQ Try.prog W [.tmp 4] (fun v h' => HX h0 h' ∧ v = .bool (sameL rl el))) := by
  induction n using Nat.strongRecOn with
  | _ n ih =>
    intro i h d4 d5 d14 d15 d16 d17 d18 d19 d20 d21 d22 d23 d24 d25 d26 d27 d28 d29 d30 d31 d32 hn h0i h1i hX hA9
    refine WpM.run tab_ok 6 ⟨.code x23_16, [.seq x23_17, .loop x23_13, .blk 0, .seq x23_27], (E20 q rl rm rx ea el ec d4 d5 i d15 d16 d17 d18 d19 d20 d21 d22 d23 d24 d25 d26 d27 d28 d29 d30 d31 d32), [], h, none⟩ (by kernel_rfl) ?_
    refine WpM.cond (t := (decide (i < ((rl.length : Int))))) (by kernel_rfl) (fun c101 => ?_) (fun c101 => ?_)
    · have c101p := dec_t c101
      refine WpM.run tab_ok 15 ⟨.ops (p23_22_3 :: o23_22.drop 4), [.seq x23_23, .blk 1, .seq x23_26, .loop x23_13, .blk 0, .seq x23_27], ((((((E20 q rl rm rx ea el ec d4 d5 i d15 d16 d17 d18 d19 d20 d21 d22 d23 d24 d25 d26 d27 d28 d29 d30 d31 d32).set 5 (.int .i64 i)).set 15 (.int .i64 i)).set 16 (.slice ea el.length ec true)).set 17 (.slice (some (.new q 0)) rl.length rm rx)).set 18 (.int .i64 i)), [], h, none⟩ (by kernel_rfl) ?_
      refine WpM.op (.ptr (some (.new q (0 + i.toNat * 2)))) _ (by kernel_rfl) (indexAddr_sl (e := 54) (a := (.new q 0)) (len := rl.length) (lb := rm) (ex := rx) (z := 2) (k := .i64) (n := i) (by kernel_rfl) (by kernel_rfl) (by kernel_rfl) (by kernel_rfl) (by omega)) ?_
      refine WpM.run tab_ok 0 ⟨.ops (p23_22_4 :: o23_22.drop 5), [.seq x23_23, .blk 1, .seq x23_26, .loop x23_13, .blk 0, .seq x23_27], (((((((E20 q rl rm rx ea el ec d4 d5 i d15 d16 d17 d18 d19 d20 d21 d22 d23 d24 d25 d26 d27 d28 d29 d30 d31 d32).set 5 (.int .i64 i)).set 15 (.int .i64 i)).set 16 (.slice ea el.length ec true)).set 17 (.slice (some (.new q 0)) rl.length rm rx)).set 18 (.int .i64 i)).set 19 (.ptr (some (.new q (0 + i.toNat * 2))))), [], h, none⟩ (by kernel_rfl) ?_
      refine WpM.op (.agg [.str ((gt rl i).fName), .str ((gt rl i).fValue)]) _ (by kernel_rfl) (load_new (o := (0 + i.toNat * 2)) (by kernel_rfl) (hX.keep lq hq) (rv_ldA (z := 2) (f := T54.cells) (fun _ => rfl) (i := i) (by omega) (off := 0) (n := 2) (by kernel_rfl) (by kernel_rfl) (by decide) (by decide) (by kernel_rfl) (by omega))) ?_
      refine WpM.run tab_ok 3 ⟨.ops (p37_1_0 :: o37_1.drop 1), [.seq x37_2, .call [.tmp 4] (some 21) (o23_22.drop 6) (E21 q rl rm rx ea el ec d4 i d21 d22 d23 d24 d25 d26 d27 d28 d29 d30 d31 d32) [] none, .seq x23_23, .blk 1, .seq x23_26, .loop x23_13, .blk 0, .seq x23_27], [.slice ea el.length ec true, .agg [.str ((gt rl i).fName), .str ((gt rl i).fValue)], U, U, U, U, U, U, U], [], h, none⟩ (by kernel_rfl) ?_
      refine WpM.opA (fun p => .ptr (some (.new p 0))) (.cells [.str ((gt rl i).fName), .str ((gt rl i).fValue)] 54) (by kernel_rfl) (by kernel_rfl) (fun p102 h103 a104 => ?_)
      refine WpM.run tab_ok 6 ⟨.ops (p37_3_1 :: o37_3.drop 2), [.seq .ret, .call [.tmp 4] (some 21) (o23_22.drop 6) (E21 q rl rm rx ea el ec d4 i d21 d22 d23 d24 d25 d26 d27 d28 d29 d30 d31 d32) [] none, .seq x23_23, .blk 1, .seq x23_26, .loop x23_13, .blk 0, .seq x23_27], (E22 ea el ec rl i p102), [], h103, none⟩ (by kernel_rfl) ?_
      refine WpM.op (.agg [.str ((gt rl i).fName), .str ((gt rl i).fValue)]) _ (by kernel_rfl) (load_new (o := 0) (by kernel_rfl) a104.get (by kernel_rfl)) ?_
      refine WpM.run tab_ok 0 ⟨.ops (p37_3_2 :: o37_3.drop 3), [.seq .ret, .call [.tmp 4] (some 21) (o23_22.drop 6) (E21 q rl rm rx ea el ec d4 i d21 d22 d23 d24 d25 d26 d27 d28 d29 d30 d31 d32) [] none, .seq x23_23, .blk 1, .seq x23_26, .loop x23_13, .blk 0, .seq x23_27], ((E22 ea el ec rl i p102).set 6 (.agg [.str ((gt rl i).fName), .str ((gt rl i).fValue)])), [], h103, none⟩ (by kernel_rfl) ?_
      refine WpM.call 43 [.slice ea el.length ec true, .agg [.str ((gt rl i).fName), .str ((gt rl i).fValue)]] (by kernel_rfl) (by kernel_rfl) ?_
      refine WpF.mono (ixold_ok (x := (gt rl i)) hA hb) ?_
      rintro _ h105 ⟨a106, kz107, rfl, hz107⟩
      refine WpM.run tab_ok 8 ⟨.ops (p23_22_8 :: o23_22.drop 9), [.seq x23_23, .blk 1, .seq x23_26, .loop x23_13, .blk 0, .seq x23_27], ((((E21 q rl rm rx ea el ec d4 i d21 d22 d23 d24 d25 d26 d27 d28 d29 d30 d31 d32).set 21 (.bool (decide (kz107 ≥ 0)))).set 22 (.bool (!(decide (kz107 ≥ 0))))).set 23 (.bool (!(decide (kz107 ≥ 0))))), [], h105, none⟩ (by kernel_rfl) ?_
      refine WpM.guard (b := (!(decide (kz107 ≥ 0)))) (by kernel_rfl) (fun c108 => ?_) (fun c108 => ?_)
      · have c108p := not_t c108
        refine WpM.run tab_ok 22 ⟨.done .ret, [], (((((((((((((E21 q rl rm rx ea el ec d4 i d21 d22 d23 d24 d25 d26 d27 d28 d29 d30 d31 d32).set 4 (.bool false)).set 21 (.bool (decide (kz107 ≥ 0)))).set 22 (.bool (!(decide (kz107 ≥ 0))))).set 23 (.bool true)).set 24 U).set 25 U).set 26 U).set 27 U).set 28 U).set 29 U).set 30 U).set 31 (.bool true)), [], h105, none⟩ (by kernel_rfl) ?_
        refine WpM.ret (.bool false) h105 (by kernel_rfl) (by kernel_rfl) ?_
        exact ⟨((hX.alloc a104).trans a106), congrArg V.bool (by rw [hA9, smFrom_step hl9 h0i (by omega)]; simp only [← hz107, (of_not_t c108), Bool.true_and, Bool.false_and, Bool.and_true, Bool.and_false, Bool.or_false, Bool.false_or, Bool.true_or, Bool.or_true, Bool.not_true, Bool.not_false])⟩
      · have c108p := not_f c108
        refine WpM.run tab_ok 3 ⟨.ops (p23_22_11 :: o23_22.drop 12), [.seq x23_23, .blk 1, .seq x23_26, .loop x23_13, .blk 0, .seq x23_27], (((((((E21 q rl rm rx ea el ec d4 i d21 d22 d23 d24 d25 d26 d27 d28 d29 d30 d31 d32).set 21 (.bool (decide (kz107 ≥ 0)))).set 22 (.bool (!(decide (kz107 ≥ 0))))).set 23 (.bool false)).set 24 (.slice (some (.new q 0)) rl.length rm rx)).set 25 (.slice ea el.length ec true)).set 26 (.int .i64 i)), [], h105, none⟩ (by kernel_rfl) ?_
        refine WpM.op (.ptr (some ((adr ea).add (i.toNat * 2)))) _ (by kernel_rfl) (indexAddr_arr (l := el) (cap := ec) (e := 54) (k := .i64) hA (by kernel_rfl) (by kernel_rfl) (by kernel_rfl) (by kernel_rfl) (by omega)) ?_
        refine WpM.run tab_ok 0 ⟨.ops (p23_22_12 :: o23_22.drop 13), [.seq x23_23, .blk 1, .seq x23_26, .loop x23_13, .blk 0, .seq x23_27], ((((((((E21 q rl rm rx ea el ec d4 i d21 d22 d23 d24 d25 d26 d27 d28 d29 d30 d31 d32).set 21 (.bool (decide (kz107 ≥ 0)))).set 22 (.bool (!(decide (kz107 ≥ 0))))).set 23 (.bool false)).set 24 (.slice (some (.new q 0)) rl.length rm rx)).set 25 (.slice ea el.length ec true)).set 26 (.int .i64 i)).set 27 (.ptr (some ((adr ea).add (i.toNat * 2))))), [], h105, none⟩ (by kernel_rfl) ?_
        refine WpM.op (.agg [.str ((gt el i).fName), .str ((gt el i).fValue)]) _ (by kernel_rfl) (arr_loadA (i := i) hA (by omega) (off := 0) (n := 2) (ad := ((adr ea).add (i.toNat * 2))) (by kernel_rfl) (by kernel_rfl) (by kernel_rfl) (by decide) (by decide) (by kernel_rfl) ((Ad.add_zero _).symm)) ?_
        refine WpM.run tab_ok 3 ⟨.ops (p37_1_0 :: o37_1.drop 1), [.seq x37_2, .call [.tmp 4] (some 29) (o23_22.drop 14) (E23 q rl rm rx ea el ec d4 i kz107 d29 d30 d31 d32) [] none, .seq x23_23, .blk 1, .seq x23_26, .loop x23_13, .blk 0, .seq x23_27], [.slice (some (.new q 0)) rl.length rm rx, .agg [.str ((gt el i).fName), .str ((gt el i).fValue)], U, U, U, U, U, U, U], [], h105, none⟩ (by kernel_rfl) ?_
        refine WpM.opA (fun p => .ptr (some (.new p 0))) (.cells [.str ((gt el i).fName), .str ((gt el i).fValue)] 54) (by kernel_rfl) (by kernel_rfl) (fun p109 h110 a111 => ?_)
        refine WpM.run tab_ok 6 ⟨.ops (p37_3_1 :: o37_3.drop 2), [.seq .ret, .call [.tmp 4] (some 29) (o23_22.drop 14) (E23 q rl rm rx ea el ec d4 i kz107 d29 d30 d31 d32) [] none, .seq x23_23, .blk 1, .seq x23_26, .loop x23_13, .blk 0, .seq x23_27], (E24 q rl rm rx el i p109), [], h110, none⟩ (by kernel_rfl) ?_
        refine WpM.op (.agg [.str ((gt el i).fName), .str ((gt el i).fValue)]) _ (by kernel_rfl) (load_new (o := 0) (by kernel_rfl) a111.get (by kernel_rfl)) ?_
        refine WpM.run tab_ok 0 ⟨.ops (p37_3_2 :: o37_3.drop 3), [.seq .ret, .call [.tmp 4] (some 29) (o23_22.drop 14) (E23 q rl rm rx ea el ec d4 i kz107 d29 d30 d31 d32) [] none, .seq x23_23, .blk 1, .seq x23_26, .loop x23_13, .blk 0, .seq x23_27], ((E24 q rl rm rx el i p109).set 6 (.agg [.str ((gt el i).fName), .str ((gt el i).fValue)])), [], h110, none⟩ (by kernel_rfl) ?_
        refine WpM.call 43 [.slice (some (.new q 0)) rl.length rm rx, .agg [.str ((gt el i).fName), .str ((gt el i).fValue)]] (by kernel_rfl) (by kernel_rfl) ?_
        have g115 := (a111.keep (a106.le (a104.le (hX.le lq))) (a106.keep (a104.le (hX.le lq)) (a104.keep (hX.le lq) (hX.keep lq hq))))
        refine WpF.mono (ixnew_ok (x := (gt el i)) (by omega) (a111.le (a106.le (a104.le (hX.le lq)))) g115) ?_
        rintro _ h112 ⟨a113, kz114, rfl, hz114⟩
        refine WpM.run tab_ok 10 ⟨.code x23_23, [.blk 1, .seq x23_26, .loop x23_13, .blk 0, .seq x23_27], ((((E23 q rl rm rx ea el ec d4 i kz107 d29 d30 d31 d32).set 29 (.bool (decide (kz114 ≥ 0)))).set 30 (.bool (!(decide (kz114 ≥ 0))))).set 31 (.bool (!(decide (kz114 ≥ 0))))), [], h112, none⟩ (by kernel_rfl) ?_
        refine WpM.cond (t := (!(decide (kz114 ≥ 0)))) (by kernel_rfl) (fun c116 => ?_) (fun c116 => ?_)
        · have c116p := not_t c116
          refine WpM.run tab_ok 11 ⟨.done .ret, [], (((((E23 q rl rm rx ea el ec d4 i kz107 d29 d30 d31 d32).set 4 (.bool false)).set 29 (.bool (decide (kz114 ≥ 0)))).set 30 (.bool (!(decide (kz114 ≥ 0))))).set 31 (.bool (!(decide (kz114 ≥ 0))))), [], h112, none⟩ (by kernel_rfl) ?_
          refine WpM.ret (.bool false) h112 (by kernel_rfl) (by kernel_rfl) ?_
          exact ⟨((((hX.alloc a104).trans a106).alloc a111).trans a113), congrArg V.bool (by rw [hA9, smFrom_step hl9 h0i (by omega)]; simp only [← hz107, ← hz114, (of_not_f c108), (of_not_t c116), Bool.true_and, Bool.false_and, Bool.and_true, Bool.and_false, Bool.or_false, Bool.false_or, Bool.true_or, Bool.or_true, Bool.not_true, Bool.not_false])⟩
        · have c116p := not_f c116
          refine WpM.run tab_ok 4 ⟨.ops (p23_26_0 :: o23_26.drop 1), [.loop x23_13, .blk 0, .seq x23_27], ((((E23 q rl rm rx ea el ec d4 i kz107 d29 d30 d31 d32).set 29 (.bool (decide (kz114 ≥ 0)))).set 30 (.bool (!(decide (kz114 ≥ 0))))).set 31 (.bool (!(decide (kz114 ≥ 0))))), [], h112, none⟩ (by kernel_rfl) ?_
          refine WpM.op (.int .i64 (i + 1)) _ (by kernel_rfl) (arith_add (by kernel_rfl) (by kernel_rfl) (by omega)) ?_
          refine WpM.run tab_ok 3 ⟨.code x23_13, [.loop x23_13, .blk 0, .seq x23_27], (.slice (some (.new q 0)) rl.length rm rx :: .slice ea el.length ec true :: U :: U :: d4 :: .int .i64 i :: .slice (some (.new q 0)) rl.length rm rx :: .int .i64 ((rl.length : Int)) :: .slice ea el.length ec true :: .int .i64 ((el.length : Int)) :: .bool (!(((rl.length : Int)) == ((el.length : Int)))) :: .slice (some (.new q 0)) rl.length rm rx :: .int .i64 ((rl.length : Int)) :: .int .i64 (i + 1) :: .bool (decide (i < ((rl.length : Int)))) :: .int .i64 i :: .slice ea el.length ec true :: .slice (some (.new q 0)) rl.length rm rx :: .int .i64 i :: .ptr (some (.new q (0 + i.toNat * 2))) :: .agg [.str ((gt rl i).fName), .str ((gt rl i).fValue)] :: .bool (decide (kz107 ≥ 0)) :: .bool (!(decide (kz107 ≥ 0))) :: .bool false :: .slice (some (.new q 0)) rl.length rm rx :: .slice ea el.length ec true :: .int .i64 i :: .ptr (some ((adr ea).add (i.toNat * 2))) :: .agg [.str ((gt el i).fName), .str ((gt el i).fValue)] :: .bool (decide (kz114 ≥ 0)) :: .bool (!(decide (kz114 ≥ 0))) :: .bool (!(decide (kz114 ≥ 0))) :: .int .i64 (i + 1) :: []), [], h112, none⟩ (by kernel_rfl) ?_
          refine ih _ ?_ _ h112 _ _ _ _ _ _ _ _ _ _ _ _ _ _ _ _ _ _ _ _ _ rfl ?_ ?_ ?_ ?_
          · omega
          · omega
          · omega
          · exact ((((hX.alloc a104).trans a106).alloc a111).trans a113)
          · rw [hA9, smFrom_step hl9 h0i (by omega)]; simp only [← hz107, ← hz114, (of_not_f c108), (of_not_f c116), Bool.true_and, Bool.false_and, Bool.and_true, Bool.and_false, Bool.or_false, Bool.false_or, Bool.true_or, Bool.or_true, Bool.not_true, Bool.not_false]
    · have c101p := dec_f c101
      refine WpM.run tab_ok 11 ⟨.done .ret, [], ((E20 q rl rm rx ea el ec d4 d5 i d15 d16 d17 d18 d19 d20 d21 d22 d23 d24 d25 d26 d27 d28 d29 d30 d31 d32).set 4 (.bool true)), [], h, none⟩ (by kernel_rfl) ?_
      refine WpM.ret (.bool true) h (by kernel_rfl) (by kernel_rfl) ?_
      exact ⟨hX, congrArg V.bool (by rw [hA9, smFrom_end hl9 (by omega)])⟩
def E25 (q : Nat) (rl : List T54) (rm : Nat) (rx : Bool) (ea : Option Ad) (el : List T54) (ec : Nat) : List V := (.slice (some (.new q 0)) rl.length rm rx :: .slice ea el.length ec true :: U :: U :: .bool false :: U :: .slice (some (.new q 0)) rl.length rm rx :: .int .i64 ((rl.length : Int)) :: .slice ea el.length ec true :: .int .i64 ((el.length : Int)) :: .bool (!(((rl.length : Int)) == ((el.length : Int)))) :: us 22)
theorem sm_rows {W : World} {q : Nat} {ea : Option Ad} {rl el : List T54} {rm ec : Nat} {rx : Bool} {h0 : H} (hA : Arr W 2 T54.cells ea el) (hb : el.length * 32 ≤ 140737488351232) (lq : q < h0.nx) (hq : h0.get q = some (.cells (rv T54.cells rl) 54)) : WpF Try.prog W prim1 23 [.slice (some (.new q 0)) rl.length rm rx, .slice ea el.length ec true] h0 (fun v h' => HX h0 h' ∧ v = .bool (sameL rl el)) := by
  refine WpF.m tab_ok (by kernel_rfl) rfl ?_
  refine WpM.cfg (c' := ⟨.code x23_0, [], (.slice (some (.new q 0)) rl.length rm rx :: .slice ea el.length ec true :: us 31), [], h0, none⟩) (by kernel_rfl) ?_
  refine WpM.run tab_ok 15 ⟨.code x23_5, [.seq x23_8], (E25 q rl rm rx ea el ec), [], h0, none⟩ (by kernel_rfl) ?_
  refine WpM.cond (t := (!(((rl.length : Int)) == ((el.length : Int))))) (by kernel_rfl) (fun c1 => ?_) (fun c1 => ?_)
  · have c1p := nbeq_t c1
    refine WpM.run tab_ok 7 ⟨.done .ret, [], (E25 q rl rm rx ea el ec), [], h0, none⟩ (by kernel_rfl) ?_
    refine WpM.ret (.bool false) h0 (by kernel_rfl) (by kernel_rfl) ?_
    have hl9 : ¬ (rl.length = el.length) := by omega
    exact ⟨(HX.refl h0), congrArg V.bool (by unfold sameL; simp [hl9])⟩
  · have c1p := nbeq_f c1
    refine WpM.run tab_ok 12 ⟨.code x23_13, [.loop x23_13, .blk 0, .seq x23_27], (.slice (some (.new q 0)) rl.length rm rx :: .slice ea el.length ec true :: U :: U :: .bool false :: U :: .slice (some (.new q 0)) rl.length rm rx :: .int .i64 ((rl.length : Int)) :: .slice ea el.length ec true :: .int .i64 ((el.length : Int)) :: .bool (!(((rl.length : Int)) == ((el.length : Int)))) :: .slice (some (.new q 0)) rl.length rm rx :: .int .i64 ((rl.length : Int)) :: .int .i64 0 :: us 19), [], h0, none⟩ (by kernel_rfl) ?_
    have hl9 : rl.length = el.length := by omega
    exact sm_loop hA hb lq hq hl9 _ 0 _ _ _ _ _ _ _ _ _ _ _ _ _ _ _ _ _ _ _ _ _ _ rfl (by omega) (by omega) (HX.refl h0) (smFrom_zero hl9).symm
def E26 (ra : Option Ad) (rm : Nat) (rx : Bool) (ea : Option Ad) (el : List T54) (ec : Nat) : List V := (.slice ra 0 rm rx :: .slice ea el.length ec true :: U :: U :: .bool false :: U :: .slice ra 0 rm rx :: .int .i64 0 :: .slice ea el.length ec true :: .int .i64 ((el.length : Int)) :: .bool (!((0 : Int) == ((el.length : Int)))) :: us 22)
theorem sm_zero {W : World} {ra ea : Option Ad} {el : List T54} {rm ec : Nat} {rx : Bool} {h0 : H} : WpF Try.prog W prim1 23 [.slice ra 0 rm rx, .slice ea el.length ec true] h0 (fun v h' => HX h0 h' ∧ v = .bool (sameL ([] : List T54) el)) := by
  refine WpF.m tab_ok (by kernel_rfl) rfl ?_
  refine WpM.cfg (c' := ⟨.code x23_0, [], (.slice ra 0 rm rx :: .slice ea el.length ec true :: us 31), [], h0, none⟩) (by kernel_rfl) ?_
  refine WpM.run tab_ok 15 ⟨.code x23_5, [.seq x23_8], (E26 ra rm rx ea el ec), [], h0, none⟩ (by kernel_rfl) ?_
  refine WpM.cond (t := (!((0 : Int) == ((el.length : Int))))) (by kernel_rfl) (fun c1 => ?_) (fun c1 => ?_)
  · have c1p := nbeq_t c1
    refine WpM.run tab_ok 7 ⟨.done .ret, [], (E26 ra rm rx ea el ec), [], h0, none⟩ (by kernel_rfl) ?_
    refine WpM.ret (.bool false) h0 (by kernel_rfl) (by kernel_rfl) ?_
    have hl9 : ¬ (el.length = 0) := by omega
    exact ⟨(HX.refl h0), congrArg V.bool (by cases el with
      | nil => simp at hl9
      | cons a t => rfl)⟩
  · have c1p := nbeq_f c1
    refine WpM.run tab_ok 30 ⟨.done .ret, [], ((((((E26 ra rm rx ea el ec).set 4 (.bool true)).set 11 (.slice ra 0 rm rx)).set 12 (.int .i64 0)).set 13 (.int .i64 0)).set 14 (.bool false)), [], h0, none⟩ (by kernel_rfl) ?_
    refine WpM.ret (.bool true) h0 (by kernel_rfl) (by kernel_rfl) ?_
    have hl9 : el = [] := List.eq_nil_of_length_eq_zero (by omega)
    exact ⟨(HX.refl h0), congrArg V.bool (by rw [hl9]; rfl)⟩
theorem sm_ok {W : World} {r : RE} {e : T29} {h0 : H} (hr : AtOK h0 r) (he : e.ok W) : WpF Try.prog W prim1 23 [.slice r.a r.n r.m r.x, .slice e.fAttrs.a e.fAttrs.l.length e.fAttrs.cap true] h0 (fun v h' => HX h0 h' ∧ v = .bool (sameL r.l e.fAttrs.l)) := by
  rw [hr.n]
  rcases Nat.eq_zero_or_pos r.l.length with h1 | h1
  · rw [List.eq_nil_of_length_eq_zero h1]; exact sm_zero
  · obtain ⟨q, ea, lq, hq⟩ := hr.g h1
    rw [ea]
    exact sm_rows he.fAttrs.arr (by have h2 := he.fAttrs.le; have h3 := he.fAttrs.reach; have : e.fAttrs.l.length * 32 ≤ e.fAttrs.cap * 32 := Nat.mul_le_mul_right _ h2; omega) lq hq
end Go.Proofs.Ytplcallbihapdaa.Dg
