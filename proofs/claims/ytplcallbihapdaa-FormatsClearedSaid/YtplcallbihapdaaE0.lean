/-
  Attributes alike; what a push does.
-/
import Derived.Test.YtplcallbihapdaaC0
set_option linter.unusedVariables false
set_option linter.unusedSimpArgs false
namespace Go.Proofs.Ytplcallbihapdaa.Dg
open Go Go.RowKit
set_option maxRecDepth 20000
def E20 (q : Nat) (rl : List T54) (rm : Nat) (rx : Bool) (ea : Option Ad) (el : List T54) (ec : Nat) (d4 : V) (d5 : V) (i : Int) (d15 : V) (d16 : V) (d17 : V) (d18 : V) (d19 : V) (d20 : V) (d21 : V) (d22 : V) (d23 : V) (d24 : V) (d25 : V) (d26 : V) (d27 : V) (d28 : V) (d29 : V) (d30 : V) (d31 : V) (d32 : V) : List V := (.slice (some (.new q 0)) rl.length rm rx :: .slice ea el.length ec true :: U :: U :: d4 :: d5 :: .slice (some (.new q 0)) rl.length rm rx :: .int .i64 ((rl.length : Int)) :: .slice ea el.length ec true :: .int .i64 ((el.length : Int)) :: .bool (!(((rl.length : Int)) == ((el.length : Int)))) :: .slice (some (.new q 0)) rl.length rm rx :: .int .i64 ((rl.length : Int)) :: .int .i64 i :: .bool (decide (i < ((rl.length : Int)))) :: d15 :: d16 :: d17 :: d18 :: d19 :: d20 :: d21 :: d22 :: d23 :: d24 :: d25 :: d26 :: d27 :: d28 :: d29 :: d30 :: d31 :: d32 :: [])
def E21 (q : Nat) (rl : List T54) (rm : Nat) (rx : Bool) (ea : Option Ad) (el : List T54) (ec : Nat) (d4 : V) (i : Int) (d21 : V) (d22 : V) (d23 : V) (d24 : V) (d25 : V) (d26 : V) (d27 : V) (d28 : V) (d29 : V) (d30 : V) (d31 : V) (d32 : V) : List V := (.slice (some (.new q 0)) rl.length rm rx :: .slice ea el.length ec true :: U :: U :: d4 :: .int .i64 i :: .slice (some (.new q 0)) rl.length rm rx :: .int .i64 ((rl.length : Int)) :: .slice ea el.length ec true :: .int .i64 ((el.length : Int)) :: .bool (!(((rl.length : Int)) == ((el.length : Int)))) :: .slice (some (.new q 0)) rl.length rm rx :: .int .i64 ((rl.length : Int)) :: .int .i64 i :: .bool (decide (i < ((rl.length : Int)))) :: .int .i64 i :: .slice ea el.length ec true :: .slice (some (.new q 0)) rl.length rm rx :: .int .i64 i :: .ptr (some (.new q (0 + i.toNat * 2))) :: .agg [.str ((gt rl i).fName), .str ((gt rl i).fValue)] :: d21 :: d22 :: d23 :: d24 :: d25 :: d26 :: d27 :: d28 :: d29 :: d30 :: d31 :: d32 :: [])
def E22 (ea : Option Ad) (el : List T54) (ec : Nat) (rl : List T54) (i : Int) (p102 : Nat) : List V := [.slice ea el.length ec true, .agg [.str ((gt rl i).fName), .str ((gt rl i).fValue)], U, .ptr (some (.new p102 0)), .bool false, .slice ea el.length ec true, U, U, U]
def E23 (q : Nat) (rl : List T54) (rm : Nat) (rx : Bool) (ea : Option Ad) (el : List T54) (ec : Nat) (d4 : V) (i : Int) (kz107 : Int) (d29 : V) (d30 : V) (d31 : V) (d32 : V) : List V := (.slice (some (.new q 0)) rl.length rm rx :: .slice ea el.length ec true :: U :: U :: d4 :: .int .i64 i :: .slice (some (.new q 0)) rl.length rm rx :: .int .i64 ((rl.length : Int)) :: .slice ea el.length ec true :: .int .i64 ((el.length : Int)) :: .bool (!(((rl.length : Int)) == ((el.length : Int)))) :: .slice (some (.new q 0)) rl.length rm rx :: .int .i64 ((rl.length : Int)) :: .int .i64 i :: .bool (decide (i < ((rl.length : Int)))) :: .int .i64 i :: .slice ea el.length ec true :: .slice (some (.new q 0)) rl.length rm rx :: .int .i64 i :: .ptr (some (.new q (0 + i.toNat * 2))) :: .agg [.str ((gt rl i).fName), .str ((gt rl i).fValue)] :: .bool (decide (kz107 ≥ 0)) :: .bool (!(decide (kz107 ≥ 0))) :: .bool false :: .slice (some (.new q 0)) rl.length rm rx :: .slice ea el.length ec true :: .int .i64 i :: .ptr (some ((adr ea).add (i.toNat * 2))) :: .agg [.str ((gt el i).fName), .str ((gt el i).fValue)] :: d29 :: d30 :: d31 :: d32 :: [])
def E24 (q : Nat) (rl : List T54) (rm : Nat) (rx : Bool) (el : List T54) (i : Int) (p109 : Nat) : List V := [.slice (some (.new q 0)) rl.length rm rx, .agg [.str ((gt el i).fName), .str ((gt el i).fValue)], U, .ptr (some (.new p109 0)), .bool false, .slice (some (.new q 0)) rl.length rm rx, U, U, U]
theorem sm_loop {W : World} {q : Nat} {ea : Option Ad} {rl el : List T54} {rm ec : Nat} {rx : Bool} {h0 : H} (hA : Arr W 2 T54.cells ea el) (hb : el.length * 32 ≤ 140737488351232) (lq : q < h0.nx) (hq : h0.get q = some (.cells (rv T54.cells rl) 54)) (hl : rl.length = el.length) (n : Nat) : ∀ (i : Int) (h : H) (d4 d5 d14 d15 d16 d17 d18 d19 d20 d21 d22 d23 d24 d25 d26 d27 d28 d29 d30 d31 d32 : V), n = ((rl.length : Int) - i).toNat → (0 ≤ i) → (i ≤ (rl.length : Int)) → (HX h0 h) → WpM Try.prog W prim1 ⟨.code x23_13, [.loop x23_13, .blk 0, .seq x23_27], (.slice (some (.new q 0)) rl.length rm rx :: .slice ea el.length ec true :: U :: U :: d4 :: d5 :: .slice (some (.new q 0)) rl.length rm rx :: .int .i64 ((rl.length : Int)) :: .slice ea el.length ec true :: .int .i64 ((el.length : Int)) :: .bool (!(((rl.length : Int)) == ((el.length : Int)))) :: .slice (some (.new q 0)) rl.length rm rx :: .int .i64 ((rl.length : Int)) :: .int .i64 i :: d14 :: d15 :: d16 :: d17 :: d18 :: d19 :: d20 :: d21 :: d22 :: d23 :: d24 :: d25 :: d26 :: d27 :: d28 :: d29 :: d30 :: d31 :: d32 :: []), [], h, none⟩ (retQ Try.prog W [.tmp 4] (fun v h' => HX h0 h' ∧ ∃ b, v = .bool b)) := by
  induction n using Nat.strongRecOn with
  | _ n ih =>
    intro i h d4 d5 d14 d15 d16 d17 d18 d19 d20 d21 d22 d23 d24 d25 d26 d27 d28 d29 d30 d31 d32 hn h0i h1i hX
    refine WpM.run tab_ok 6 ⟨.code x23_16, [.seq x23_17, .loop x23_13, .blk 0, .seq x23_27], (E20 q rl rm rx ea el ec d4 d5 i d15 d16 d17 d18 d19 d20 d21 d22 d23 d24 d25 d26 d27 d28 d29 d30 d31 d32), [], h, none⟩ (by kernel_rfl) ?_
    refine WpM.cond (t := (decide (i < ((rl.length : Int))))) (by kernel_rfl) (fun c101 => ?_) (fun c101 => ?_)
    · have c101p := dec_t c101
      refine WpM.run tab_ok 15 ⟨.ops (p23_22_3 :: o23_22.drop 4), [.seq x23_23, .blk 1, .seq x23_26, .loop x23_13, .blk 0, .seq x23_27], ((((((E20 q rl rm rx ea el ec d4 d5 i d15 d16 d17 d18 d19 d20 d21 d22 d23 d24 d25 d26 d27 d28 d29 d30 d31 d32).set 5 (.int .i64 i)).set 15 (.int .i64 i)).set 16 (.slice ea el.length ec true)).set 17 (.slice (some (.new q 0)) rl.length rm rx)).set 18 (.int .i64 i)), [], h, none⟩ (by kernel_rfl) ?_
      refine WpM.op (.ptr (some (.new q (0 + i.toNat * 2)))) _ (by kernel_rfl) (indexAddr_sl (e := 54) (a := (.new q 0)) (len := rl.length) (lb := rm) (ex := rx) (z := 2) (k := .i64) (n := i) (by kernel_rfl) (by kernel_rfl) (by kernel_rfl) (by kernel_rfl) (by omega)) ?_
      refine WpM.run tab_ok 0 ⟨.ops (p23_22_4 :: o23_22.drop 5), [.seq x23_23, .blk 1, .seq x23_26, .loop x23_13, .blk 0, .seq x23_27], (((((((E20 q rl rm rx ea el ec d4 d5 i d15 d16 d17 d18 d19 d20 d21 d22 d23 d24 d25 d26 d27 d28 d29 d30 d31 d32).set 5 (.int .i64 i)).set 15 (.int .i64 i)).set 16 (.slice ea el.length ec true)).set 17 (.slice (some (.new q 0)) rl.length rm rx)).set 18 (.int .i64 i)).set 19 (.ptr (some (.new q (0 + i.toNat * 2))))), [], h, none⟩ (by kernel_rfl) ?_
      refine WpM.op (.agg [.str ((gt rl i).fName), .str ((gt rl i).fValue)]) _ (by kernel_rfl) (load_new (o := (0 + i.toNat * 2)) (by kernel_rfl) (hX.keep lq hq) (rv_ldA (z := 2) (f := T54.cells) (fun _ => rfl) (i := i) (by omega) (off := 0) (n := 2) (by kernel_rfl) (by kernel_rfl) (by decide) (by decide) (by kernel_rfl) (by omega))) ?_
      refine WpM.run tab_ok 3 ⟨.ops (p37_1_0 :: o37_1.drop 1), [.seq x37_2, .call [.tmp 4] (some 21) (o23_22.drop 6) (E21 q rl rm rx ea el ec d4 i d21 d22 d23 d24 d25 d26 d27 d28 d29 d30 d31 d32) [] none, .seq x23_23, .blk 1, .seq x23_26, .loop x23_13, .blk 0, .seq x23_27], [.slice ea el.length ec true, .agg [.str ((gt rl i).fName), .str ((gt rl i).fValue)], U, U, U, U, U, U, U], [], h, none⟩ (by kernel_rfl) ?_
      refine WpM.opA (fun p => .ptr (some (.new p 0))) (.cells [.str ((gt rl i).fName), .str ((gt rl i).fValue)] 54) (by kernel_rfl) (by kernel_rfl) (fun p102 h103 a104 => ?_)
      refine WpM.run tab_ok 6 ⟨.ops (p37_3_1 :: o37_3.drop 2), [.seq .ret, .call [.tmp 4] (some 21) (o23_22.drop 6) (E21 q rl rm rx ea el ec d4 i d21 d22 d23 d24 d25 d26 d27 d28 d29 d30 d31 d32) [] none, .seq x23_23, .blk 1, .seq x23_26, .loop x23_13, .blk 0, .seq x23_27], (E22 ea el ec rl i p102), [], h103, none⟩ (by kernel_rfl) ?_
      refine WpM.op (.agg [.str ((gt rl i).fName), .str ((gt rl i).fValue)]) _ (by kernel_rfl) (load_new (o := 0) (by kernel_rfl) a104.get (by kernel_rfl)) ?_
      refine WpM.run tab_ok 0 ⟨.ops (p37_3_2 :: o37_3.drop 3), [.seq .ret, .call [.tmp 4] (some 21) (o23_22.drop 6) (E21 q rl rm rx ea el ec d4 i d21 d22 d23 d24 d25 d26 d27 d28 d29 d30 d31 d32) [] none, .seq x23_23, .blk 1, .seq x23_26, .loop x23_13, .blk 0, .seq x23_27], ((E22 ea el ec rl i p102).set 6 (.agg [.str ((gt rl i).fName), .str ((gt rl i).fValue)])), [], h103, none⟩ (by kernel_rfl) ?_
      refine WpM.call 43 [.slice ea el.length ec true, .agg [.str ((gt rl i).fName), .str ((gt rl i).fValue)]] (by kernel_rfl) (by kernel_rfl) ?_
      refine WpF.mono (ixold_ok hA hb) ?_
      rintro _ h105 ⟨a106, kz107, rfl⟩
      refine WpM.run tab_ok 8 ⟨.ops (p23_22_8 :: o23_22.drop 9), [.seq x23_23, .blk 1, .seq x23_26, .loop x23_13, .blk 0, .seq x23_27], ((((E21 q rl rm rx ea el ec d4 i d21 d22 d23 d24 d25 d26 d27 d28 d29 d30 d31 d32).set 21 (.bool (decide (kz107 ≥ 0)))).set 22 (.bool (!(decide (kz107 ≥ 0))))).set 23 (.bool (!(decide (kz107 ≥ 0))))), [], h105, none⟩ (by kernel_rfl) ?_
      refine WpM.guard (b := (!(decide (kz107 ≥ 0)))) (by kernel_rfl) (fun c108 => ?_) (fun c108 => ?_)
      · have c108p := not_t c108
        refine WpM.run tab_ok 22 ⟨.done .ret, [], (((((((((((((E21 q rl rm rx ea el ec d4 i d21 d22 d23 d24 d25 d26 d27 d28 d29 d30 d31 d32).set 4 (.bool false)).set 21 (.bool (decide (kz107 ≥ 0)))).set 22 (.bool (!(decide (kz107 ≥ 0))))).set 23 (.bool true)).set 24 U).set 25 U).set 26 U).set 27 U).set 28 U).set 29 U).set 30 U).set 31 (.bool true)), [], h105, none⟩ (by kernel_rfl) ?_
        refine WpM.ret (.bool false) h105 (by kernel_rfl) (by kernel_rfl) ?_
        exact ⟨((hX.alloc a104).trans a106), _, rfl⟩
      · have c108p := not_f c108
        refine WpM.run tab_ok 3 ⟨.ops (p23_22_11 :: o23_22.drop 12), [.seq x23_23, .blk 1, .seq x23_26, .loop x23_13, .blk 0, .seq x23_27], (((((((E21 q rl rm rx ea el ec d4 i d21 d22 d23 d24 d25 d26 d27 d28 d29 d30 d31 d32).set 21 (.bool (decide (kz107 ≥ 0)))).set 22 (.bool (!(decide (kz107 ≥ 0))))).set 23 (.bool false)).set 24 (.slice (some (.new q 0)) rl.length rm rx)).set 25 (.slice ea el.length ec true)).set 26 (.int .i64 i)), [], h105, none⟩ (by kernel_rfl) ?_
        refine WpM.op (.ptr (some ((adr ea).add (i.toNat * 2)))) _ (by kernel_rfl) (indexAddr_arr (l := el) (cap := ec) (e := 54) (k := .i64) hA (by kernel_rfl) (by kernel_rfl) (by kernel_rfl) (by kernel_rfl) (by omega)) ?_
        refine WpM.run tab_ok 0 ⟨.ops (p23_22_12 :: o23_22.drop 13), [.seq x23_23, .blk 1, .seq x23_26, .loop x23_13, .blk 0, .seq x23_27], ((((((((E21 q rl rm rx ea el ec d4 i d21 d22 d23 d24 d25 d26 d27 d28 d29 d30 d31 d32).set 21 (.bool (decide (kz107 ≥ 0)))).set 22 (.bool (!(decide (kz107 ≥ 0))))).set 23 (.bool false)).set 24 (.slice (some (.new q 0)) rl.length rm rx)).set 25 (.slice ea el.length ec true)).set 26 (.int .i64 i)).set 27 (.ptr (some ((adr ea).add (i.toNat * 2))))), [], h105, none⟩ (by kernel_rfl) ?_
        refine WpM.op (.agg [.str ((gt el i).fName), .str ((gt el i).fValue)]) _ (by kernel_rfl) (arr_loadA (i := i) hA (by omega) (off := 0) (n := 2) (ad := ((adr ea).add (i.toNat * 2))) (by kernel_rfl) (by kernel_rfl) (by kernel_rfl) (by decide) (by decide) (by kernel_rfl) ((Ad.add_zero _).symm)) ?_
        refine WpM.run tab_ok 3 ⟨.ops (p37_1_0 :: o37_1.drop 1), [.seq x37_2, .call [.tmp 4] (some 29) (o23_22.drop 14) (E23 q rl rm rx ea el ec d4 i kz107 d29 d30 d31 d32) [] none, .seq x23_23, .blk 1, .seq x23_26, .loop x23_13, .blk 0, .seq x23_27], [.slice (some (.new q 0)) rl.length rm rx, .agg [.str ((gt el i).fName), .str ((gt el i).fValue)], U, U, U, U, U, U, U], [], h105, none⟩ (by kernel_rfl) ?_
        refine WpM.opA (fun p => .ptr (some (.new p 0))) (.cells [.str ((gt el i).fName), .str ((gt el i).fValue)] 54) (by kernel_rfl) (by kernel_rfl) (fun p109 h110 a111 => ?_)
        refine WpM.run tab_ok 6 ⟨.ops (p37_3_1 :: o37_3.drop 2), [.seq .ret, .call [.tmp 4] (some 29) (o23_22.drop 14) (E23 q rl rm rx ea el ec d4 i kz107 d29 d30 d31 d32) [] none, .seq x23_23, .blk 1, .seq x23_26, .loop x23_13, .blk 0, .seq x23_27], (E24 q rl rm rx el i p109), [], h110, none⟩ (by kernel_rfl) ?_
        refine WpM.op (.agg [.str ((gt el i).fName), .str ((gt el i).fValue)]) _ (by kernel_rfl) (load_new (o := 0) (by kernel_rfl) a111.get (by kernel_rfl)) ?_
        refine WpM.run tab_ok 0 ⟨.ops (p37_3_2 :: o37_3.drop 3), [.seq .ret, .call [.tmp 4] (some 29) (o23_22.drop 14) (E23 q rl rm rx ea el ec d4 i kz107 d29 d30 d31 d32) [] none, .seq x23_23, .blk 1, .seq x23_26, .loop x23_13, .blk 0, .seq x23_27], ((E24 q rl rm rx el i p109).set 6 (.agg [.str ((gt el i).fName), .str ((gt el i).fValue)])), [], h110, none⟩ (by kernel_rfl) ?_
        refine WpM.call 43 [.slice (some (.new q 0)) rl.length rm rx, .agg [.str ((gt el i).fName), .str ((gt el i).fValue)]] (by kernel_rfl) (by kernel_rfl) ?_
        have g115 := (a111.keep (a106.le (a104.le (hX.le lq))) (a106.keep (a104.le (hX.le lq)) (a104.keep (hX.le lq) (hX.keep lq hq))))
        refine WpF.mono (ixnew_ok (by omega) (a111.le (a106.le (a104.le (hX.le lq)))) g115) ?_
        rintro _ h112 ⟨a113, kz114, rfl⟩
        refine WpM.run tab_ok 10 ⟨.code x23_23, [.blk 1, .seq x23_26, .loop x23_13, .blk 0, .seq x23_27], ((((E23 q rl rm rx ea el ec d4 i kz107 d29 d30 d31 d32).set 29 (.bool (decide (kz114 ≥ 0)))).set 30 (.bool (!(decide (kz114 ≥ 0))))).set 31 (.bool (!(decide (kz114 ≥ 0))))), [], h112, none⟩ (by kernel_rfl) ?_
        refine WpM.cond (t := (!(decide (kz114 ≥ 0)))) (by kernel_rfl) (fun c116 => ?_) (fun c116 => ?_)
        · have c116p := not_t c116
          refine WpM.run tab_ok 11 ⟨.done .ret, [], (((((E23 q rl rm rx ea el ec d4 i kz107 d29 d30 d31 d32).set 4 (.bool false)).set 29 (.bool (decide (kz114 ≥ 0)))).set 30 (.bool (!(decide (kz114 ≥ 0))))).set 31 (.bool (!(decide (kz114 ≥ 0))))), [], h112, none⟩ (by kernel_rfl) ?_
          refine WpM.ret (.bool false) h112 (by kernel_rfl) (by kernel_rfl) ?_
          exact ⟨((((hX.alloc a104).trans a106).alloc a111).trans a113), _, rfl⟩
        · have c116p := not_f c116
          refine WpM.run tab_ok 4 ⟨.ops (p23_26_0 :: o23_26.drop 1), [.loop x23_13, .blk 0, .seq x23_27], ((((E23 q rl rm rx ea el ec d4 i kz107 d29 d30 d31 d32).set 29 (.bool (decide (kz114 ≥ 0)))).set 30 (.bool (!(decide (kz114 ≥ 0))))).set 31 (.bool (!(decide (kz114 ≥ 0))))), [], h112, none⟩ (by kernel_rfl) ?_
          refine WpM.op (.int .i64 (i + 1)) _ (by kernel_rfl) (arith_add (by kernel_rfl) (by kernel_rfl) (by omega)) ?_
          refine WpM.run tab_ok 3 ⟨.code x23_13, [.loop x23_13, .blk 0, .seq x23_27], (.slice (some (.new q 0)) rl.length rm rx :: .slice ea el.length ec true :: U :: U :: d4 :: .int .i64 i :: .slice (some (.new q 0)) rl.length rm rx :: .int .i64 ((rl.length : Int)) :: .slice ea el.length ec true :: .int .i64 ((el.length : Int)) :: .bool (!(((rl.length : Int)) == ((el.length : Int)))) :: .slice (some (.new q 0)) rl.length rm rx :: .int .i64 ((rl.length : Int)) :: .int .i64 (i + 1) :: .bool (decide (i < ((rl.length : Int)))) :: .int .i64 i :: .slice ea el.length ec true :: .slice (some (.new q 0)) rl.length rm rx :: .int .i64 i :: .ptr (some (.new q (0 + i.toNat * 2))) :: .agg [.str ((gt rl i).fName), .str ((gt rl i).fValue)] :: .bool (decide (kz107 ≥ 0)) :: .bool (!(decide (kz107 ≥ 0))) :: .bool false :: .slice (some (.new q 0)) rl.length rm rx :: .slice ea el.length ec true :: .int .i64 i :: .ptr (some ((adr ea).add (i.toNat * 2))) :: .agg [.str ((gt el i).fName), .str ((gt el i).fValue)] :: .bool (decide (kz114 ≥ 0)) :: .bool (!(decide (kz114 ≥ 0))) :: .bool (!(decide (kz114 ≥ 0))) :: .int .i64 (i + 1) :: []), [], h112, none⟩ (by kernel_rfl) ?_
          refine ih _ ?_ _ h112 _ _ _ _ _ _ _ _ _ _ _ _ _ _ _ _ _ _ _ _ _ rfl ?_ ?_ ?_
          · omega
          · omega
          · omega
          · exact ((((hX.alloc a104).trans a106).alloc a111).trans a113)
    · have c101p := dec_f c101
      refine WpM.run tab_ok 11 ⟨.done .ret, [], ((E20 q rl rm rx ea el ec d4 d5 i d15 d16 d17 d18 d19 d20 d21 d22 d23 d24 d25 d26 d27 d28 d29 d30 d31 d32).set 4 (.bool true)), [], h, none⟩ (by kernel_rfl) ?_
      refine WpM.ret (.bool true) h (by kernel_rfl) (by kernel_rfl) ?_
      exact ⟨hX, _, rfl⟩
def E25 (q : Nat) (rl : List T54) (rm : Nat) (rx : Bool) (ea : Option Ad) (el : List T54) (ec : Nat) : List V := (.slice (some (.new q 0)) rl.length rm rx :: .slice ea el.length ec true :: U :: U :: .bool false :: U :: .slice (some (.new q 0)) rl.length rm rx :: .int .i64 ((rl.length : Int)) :: .slice ea el.length ec true :: .int .i64 ((el.length : Int)) :: .bool (!(((rl.length : Int)) == ((el.length : Int)))) :: us 22)
theorem sm_rows {W : World} {q : Nat} {ea : Option Ad} {rl el : List T54} {rm ec : Nat} {rx : Bool} {h0 : H} (hA : Arr W 2 T54.cells ea el) (hb : el.length * 32 ≤ 140737488351232) (lq : q < h0.nx) (hq : h0.get q = some (.cells (rv T54.cells rl) 54)) : WpF Try.prog W prim1 23 [.slice (some (.new q 0)) rl.length rm rx, .slice ea el.length ec true] h0 (fun v h' => HX h0 h' ∧ ∃ b, v = .bool b) := by
  refine WpF.m tab_ok (by kernel_rfl) rfl ?_
  refine WpM.cfg (c' := ⟨.code x23_0, [], (.slice (some (.new q 0)) rl.length rm rx :: .slice ea el.length ec true :: us 31), [], h0, none⟩) (by kernel_rfl) ?_
  refine WpM.run tab_ok 15 ⟨.code x23_5, [.seq x23_8], (E25 q rl rm rx ea el ec), [], h0, none⟩ (by kernel_rfl) ?_
  refine WpM.cond (t := (!(((rl.length : Int)) == ((el.length : Int))))) (by kernel_rfl) (fun c1 => ?_) (fun c1 => ?_)
  · have c1p := nbeq_t c1
    refine WpM.run tab_ok 7 ⟨.done .ret, [], (E25 q rl rm rx ea el ec), [], h0, none⟩ (by kernel_rfl) ?_
    refine WpM.ret (.bool false) h0 (by kernel_rfl) (by kernel_rfl) ?_
    exact ⟨(HX.refl h0), _, rfl⟩
  · have c1p := nbeq_f c1
    refine WpM.run tab_ok 12 ⟨.code x23_13, [.loop x23_13, .blk 0, .seq x23_27], (.slice (some (.new q 0)) rl.length rm rx :: .slice ea el.length ec true :: U :: U :: .bool false :: U :: .slice (some (.new q 0)) rl.length rm rx :: .int .i64 ((rl.length : Int)) :: .slice ea el.length ec true :: .int .i64 ((el.length : Int)) :: .bool (!(((rl.length : Int)) == ((el.length : Int)))) :: .slice (some (.new q 0)) rl.length rm rx :: .int .i64 ((rl.length : Int)) :: .int .i64 0 :: us 19), [], h0, none⟩ (by kernel_rfl) ?_
    exact sm_loop hA hb lq hq (by omega) _ 0 _ _ _ _ _ _ _ _ _ _ _ _ _ _ _ _ _ _ _ _ _ _ rfl (by omega) (by omega) (HX.refl h0)
def E26 (ra : Option Ad) (rm : Nat) (rx : Bool) (ea : Option Ad) (el : List T54) (ec : Nat) : List V := (.slice ra 0 rm rx :: .slice ea el.length ec true :: U :: U :: .bool false :: U :: .slice ra 0 rm rx :: .int .i64 0 :: .slice ea el.length ec true :: .int .i64 ((el.length : Int)) :: .bool (!((0 : Int) == ((el.length : Int)))) :: us 22)
theorem sm_zero {W : World} {ra ea : Option Ad} {el : List T54} {rm ec : Nat} {rx : Bool} {h0 : H} : WpF Try.prog W prim1 23 [.slice ra 0 rm rx, .slice ea el.length ec true] h0 (fun v h' => HX h0 h' ∧ ∃ b, v = .bool b) := by
  refine WpF.m tab_ok (by kernel_rfl) rfl ?_
  refine WpM.cfg (c' := ⟨.code x23_0, [], (.slice ra 0 rm rx :: .slice ea el.length ec true :: us 31), [], h0, none⟩) (by kernel_rfl) ?_
  refine WpM.run tab_ok 15 ⟨.code x23_5, [.seq x23_8], (E26 ra rm rx ea el ec), [], h0, none⟩ (by kernel_rfl) ?_
  refine WpM.cond (t := (!((0 : Int) == ((el.length : Int))))) (by kernel_rfl) (fun c1 => ?_) (fun c1 => ?_)
  · have c1p := nbeq_t c1
    refine WpM.run tab_ok 7 ⟨.done .ret, [], (E26 ra rm rx ea el ec), [], h0, none⟩ (by kernel_rfl) ?_
    refine WpM.ret (.bool false) h0 (by kernel_rfl) (by kernel_rfl) ?_
    exact ⟨(HX.refl h0), _, rfl⟩
  · have c1p := nbeq_f c1
    refine WpM.run tab_ok 30 ⟨.done .ret, [], ((((((E26 ra rm rx ea el ec).set 4 (.bool true)).set 11 (.slice ra 0 rm rx)).set 12 (.int .i64 0)).set 13 (.int .i64 0)).set 14 (.bool false)), [], h0, none⟩ (by kernel_rfl) ?_
    refine WpM.ret (.bool true) h0 (by kernel_rfl) (by kernel_rfl) ?_
    exact ⟨(HX.refl h0), _, rfl⟩
theorem sm_ok {W : World} {r : RE} {e : T29} {h0 : H} (hr : AtOK h0 r) (he : e.ok W) : WpF Try.prog W prim1 23 [.slice r.a r.n r.m r.x, .slice e.fAttrs.a e.fAttrs.l.length e.fAttrs.cap true] h0 (fun v h' => HX h0 h' ∧ ∃ b, v = .bool b) := by
  rw [hr.n]
  rcases Nat.eq_zero_or_pos r.l.length with h1 | h1
  · rw [h1]; exact sm_zero
  · obtain ⟨q, ea, lq, hq⟩ := hr.g h1
    rw [ea]
    exact sm_rows he.fAttrs.arr (by have h2 := he.fAttrs.le; have h3 := he.fAttrs.reach; have : e.fAttrs.l.length * 32 ≤ e.fAttrs.cap * 32 := Nat.mul_le_mul_right _ h2; omega) lq hq
theorem gt_set_lt {ys : List RE} {k : Nat} {d : RE} {j : Int} (h0 : 0 ≤ j) (h : j < (k : Int)) : gt (ys.set k d) j = gt ys j := by
  unfold gt
  rw [List.getD_eq_getElem?_getD, List.getD_eq_getElem?_getD, List.getElem?_set_ne (by omega)]
theorem gt_app_lt {α : Type} [Inhabited α] {l r : List α} {j : Int} (h0 : 0 ≤ j) (h : j < (l.length : Int)) : gt (l ++ r) j = gt l j := by
  unfold gt
  rw [List.getD_eq_getElem?_getD, List.getD_eq_getElem?_getD, List.getElem?_append_left (by omega)]
theorem gt_app_eq {α : Type} [Inhabited α] {l : List α} {x : α} {j : Int} (h : j = (l.length : Int)) : gt (l ++ [x]) j = x := by
  subst h
  unfold gt
  rw [List.getD_eq_getElem?_getD, Int.toNat_natCast, List.getElem?_append_right (Nat.le_refl _), Nat.sub_self]
  rfl
/-- What a push does: what stands ahead of c stays; what is behind is no marker. -/
structure PushR (c : Nat) (ys zs : List RE) : Prop where
  tk : zs.take c = ys.take c
  le : zs.length ≤ ys.length + 1
  m : MarkAt zs c
theorem gt_take_eq {c : Nat} {ys zs : List RE} (h : zs.take c = ys.take c) {j : Int} (h0 : 0 ≤ j) (hj : j < (c : Int)) : gt zs j = gt ys j := by
  have e : ∀ l : List RE, gt (l.take c) j = gt l j := fun l => by
    unfold gt
    rw [List.getD_eq_getElem?_getD, List.getD_eq_getElem?_getD, List.getElem?_take, if_pos (by omega)]
  rw [← e zs, h, e ys]
theorem PushR.refl {c : Nat} {ys : List RE} (h : MarkAt ys c) : PushR c ys ys := ⟨rfl, by omega, h⟩
theorem markAt_of {c : Nat} {ys zs : List RE} (h : MarkAt ys c) (tk : zs.take c = ys.take c) (le : c ≤ zs.length) (o : ∀ j : Int, (c : Int) ≤ j → j < (zs.length : Int) → 0 ≤ (gt zs j).id) : MarkAt zs c :=
  ⟨le, fun hc => by rw [gt_take_eq tk (by omega) (by omega)]; exact h.m hc, o⟩
theorem PushR.add {c : Nat} {ys : List RE} {y : RE} (h : MarkAt ys c) (hy : 0 ≤ y.id) : PushR c ys (ys ++ [y]) := by
  have tk : (ys ++ [y]).take c = ys.take c := List.take_append_of_le_length h.le
  refine ⟨tk, by simp, markAt_of h tk (by have := h.le; simp; omega) fun j a b => ?_⟩
  rw [List.length_append, List.length_singleton] at b
  by_cases e : j < (ys.length : Int)
  · rw [gt_app_lt (by omega) e]; exact h.o j a e
  · rw [gt_app_eq (by omega)]; exact hy
/-- One taken out of the middle, another one put behind. -/
def outP (ys : List RE) (i : Nat) (y : RE) : List RE := ys.take i ++ (ys.drop (i + 1) ++ [y])
theorem outP_eq {ys : List RE} {i k : Nat} {d y : RE} (hi : i < ys.length) (hk : k = ys.length - 1) : ((ys.take i ++ (ys.drop (i + 1) ++ ys.drop (ys.length - 1))).set k d).set k y = outP ys i y := by
  have hl : (ys.take i ++ ys.drop (i + 1)).length = k := by simp; omega
  obtain ⟨x, hx⟩ : ∃ x, ys.drop (ys.length - 1) = [x] := by
    rw [List.drop_eq_getElem_cons (by omega : ys.length - 1 < ys.length), List.drop_eq_nil_of_le (by omega)]
    exact ⟨_, rfl⟩
  rw [hx, ← List.append_assoc, List.set_append_right _ _ (by omega), hl, Nat.sub_self, List.set_append_right _ _ (by omega), hl, Nat.sub_self]
  simp [outP]
theorem outP_len {ys : List RE} {i : Nat} {y : RE} (hi : i < ys.length) : (outP ys i y).length = ys.length := by simp [outP]; omega
theorem outP_gt {ys : List RE} {i : Nat} {y : RE} (hi : i < ys.length) {j : Int} (h0 : 0 ≤ j) (hj : j < ((outP ys i y).length : Int)) : (j < (i : Int) ∧ gt (outP ys i y) j = gt ys j) ∨ ((i : Int) ≤ j ∧ j + 1 < (ys.length : Int) ∧ gt (outP ys i y) j = gt ys (j + 1)) ∨ (j + 1 = (ys.length : Int) ∧ gt (outP ys i y) j = y) := by
  rw [outP_len hi] at hj
  unfold outP gt
  simp only [List.getD_eq_getElem?_getD]
  by_cases h1 : j < (i : Int)
  · left; refine ⟨h1, ?_⟩
    rw [List.getElem?_append_left (by simp; omega), List.getElem?_take, if_pos (by omega)]
  · right
    by_cases h2 : j + 1 < (ys.length : Int)
    · left; refine ⟨by omega, h2, ?_⟩
      rw [List.getElem?_append_right (by simp; omega), List.getElem?_append_left (by simp; omega), List.getElem?_drop]
      have : i + 1 + (j.toNat - (ys.take i).length) = (j + 1).toNat := by simp; omega
      rw [this]
    · right; refine ⟨by omega, ?_⟩
      rw [List.getElem?_append_right (by simp; omega), List.getElem?_append_right (by simp; omega)]
      have : j.toNat - (ys.take i).length - (ys.drop (i + 1)).length = 0 := by simp; omega
      rw [this]; rfl
theorem PushR.out {c i : Nat} {ys : List RE} {y : RE} (h : MarkAt ys c) (hi : i < ys.length) (hc : c ≤ i) (hy : 0 ≤ y.id) : PushR c ys (outP ys i y) := by
  have tk : (outP ys i y).take c = ys.take c := by
    unfold outP
    rw [List.take_append_of_le_length (by simp; omega), List.take_take, Nat.min_eq_left hc]
  refine ⟨tk, by rw [outP_len hi]; omega, markAt_of h tk (by rw [outP_len hi]; omega) fun j a b => ?_⟩
  rcases outP_gt hi (by omega) b with ⟨e, e2⟩ | ⟨e, e3, e2⟩ | ⟨e, e2⟩
  · rw [e2]; exact h.o j a (by omega)
  · rw [e2]; exact h.o _ (by omega) e3
  · rw [e2]; exact hy
theorem FW.add {h h' : H} {pl pz pw : Nat} {ys : List RE} (s : FW h pl pz ys) (k : KA 54 h h') {y : RE} (hy : AtOK h' y) (gs : h'.get pl = some (.cells [.slice (some (.new pw 0)) (ys ++ [y]).length (ys ++ [y]).length false] 47)) (gz : h'.get pw = some (.cells (rv RE.cells (ys ++ [y])) 29)) (lw : pl < pw) (lz : pw < h'.nx) (hb : ys.length < 100000) : FW h' pl pw (ys ++ [y]) :=
  ⟨gs, gz, lw, lz, fun j a b => by
    rw [List.length_append, List.length_singleton] at b
    by_cases e : j < (ys.length : Int)
    · rw [gt_app_lt a e]; exact (s.A j a e).mono k
    · rw [gt_app_eq (by omega)]; exact hy, by simp; omega⟩
theorem FW.out {h h' : H} {pl pz i : Nat} {ys zs : List RE} (s : FW h pl pz ys) (k : KA 54 h h') {y : RE} (hy : AtOK h' y) (hi : i < ys.length) (hz : zs = outP ys i y) (gs : h'.get pl = some (.cells [.slice (some (.new pz 0)) ys.length ys.length false] 47)) (gz : h'.get pz = some (.cells (rv RE.cells zs) 29)) : FW h' pl pz (outP ys i y) := by
  subst hz
  refine ⟨by rw [outP_len hi]; exact gs, gz, s.ls, Nat.lt_of_lt_of_le s.lz k.nx, fun j a b => ?_, by rw [outP_len hi]; exact s.b⟩
  rcases outP_gt hi a b with ⟨e, e2⟩ | ⟨e, e3, e2⟩ | ⟨e, e2⟩
  · rw [e2]; exact (s.A j a (by omega)).mono k
  · rw [e2]; exact (s.A _ (by omega) e3).mono k
  · rw [e2]; exact hy
end Go.Proofs.Ytplcallbihapdaa.Dg
