/-
  The reference: attributes alike.
-/
import Derived.Test.YtplcallbihapdaaB0
set_option linter.unusedVariables false
set_option linter.unusedSimpArgs false
namespace Go.Proofs.Ytplcallbihapdaa.Dg
open Go Go.RowKit
set_option maxRecDepth 20000
def E27 (x : T54) (q : Nat) (el : List T54) (ec : Nat) (ex : Bool) (pb : Nat) (d4 : V) (i : Int) (d10 : V) (d11 : V) (d12 : V) (d13 : V) (d14 : V) (d15 : V) (d16 : V) (d17 : V) : List V := (.agg [.str x.fName, .str x.fValue] :: .slice (some (.new q 0)) el.length ec ex :: .ptr (some (.new pb 0)) :: U :: d4 :: .int .i64 i :: .int .i64 i :: .slice (some (.new q 0)) el.length ec ex :: .int .i64 ((el.length : Int)) :: .bool (decide (i < ((el.length : Int)))) :: d10 :: d11 :: d12 :: d13 :: d14 :: d15 :: d16 :: d17 :: [])
def E28 (x : T54) (q : Nat) (el : List T54) (ec : Nat) (ex : Bool) (pb : Nat) (d4 : V) (i : Int) (d10 : V) (d11 : V) : List V := (.agg [.str x.fName, .str x.fValue] :: .slice (some (.new q 0)) el.length ec ex :: .ptr (some (.new pb 0)) :: U :: d4 :: .int .i64 i :: .int .i64 i :: .slice (some (.new q 0)) el.length ec ex :: .int .i64 ((el.length : Int)) :: .bool (decide (i < ((el.length : Int)))) :: d10 :: d11 :: .slice (some (.new q 0)) el.length ec ex :: .int .i64 i :: .ptr (some (.new q (0 + i.toNat * 2))) :: .agg [.str ((gt el i).fName), .str ((gt el i).fValue)] :: .agg [.str x.fName, .str x.fValue] :: .bool (((gt el i).fName) == x.fName && ((gt el i).fValue) == x.fValue) :: [])
theorem in_loop {W : World} {q : Nat} {el : List T54} {ec : Nat} {ex : Bool} {x : T54} {h0 : H} {pb : Nat} (hb : el.length * 32 ≤ 140737488351232) (lq : q < h0.nx) (hq : h0.get q = some (.cells (rv T54.cells el) 54)) (n : Nat) : ∀ (i : Int) (h : H) (d4 d6 d7 d8 d9 d10 d11 d12 d13 d14 d15 d16 d17 : V), n = ((el.length : Int) - i).toNat → (0 ≤ i) → (i ≤ (el.length : Int)) → (HX h0 h) → (h.get pb = some (.cells [.str x.fName, .str x.fValue] 54)) → (pb < h.nx) → (el.contains x = inFrom x el i) → WpM Try.prog W prim1 ⟨.code x26_7, [.loop x26_7, .blk 0, .seq x26_19], (.agg [.str x.fName, .str x.fValue] :: .slice (some (.new q 0)) el.length ec ex :: .ptr (some (.new pb 0)) :: U :: d4 :: .int .i64 i :: d6 :: d7 :: d8 :: d9 :: d10 :: d11 :: d12 :: d13 :: d14 :: d15 :: d16 :: d17 :: []), [], h, none⟩ (retQ Try.prog W [.tmp 4] (fun v h' => HX h0 h' ∧ v = .bool (el.contains x))) := by
  induction n using Nat.strongRecOn with
  | _ n ih =>
    intro i h d4 d6 d7 d8 d9 d10 d11 d12 d13 d14 d15 d16 d17 hn h0i h1i hX gb lb hA9
    refine WpM.run tab_ok 9 ⟨.code x26_10, [.seq x26_11, .loop x26_7, .blk 0, .seq x26_19], (E27 x q el ec ex pb d4 i d10 d11 d12 d13 d14 d15 d16 d17), [], h, none⟩ (by kernel_rfl) ?_
    refine WpM.cond (t := (decide (i < ((el.length : Int))))) (by kernel_rfl) (fun c101 => ?_) (fun c101 => ?_)
    · have c101p := dec_t c101
      refine WpM.run tab_ok 8 ⟨.draw m26_14 ((2, p26_14_2) :: o26_14.drop 3) [], [.seq x26_15, .blk 1, .seq x26_18, .loop x26_7, .blk 0, .seq x26_19], (((E27 x q el ec ex pb d4 i d10 d11 d12 d13 d14 d15 d16 d17).set 12 (.slice (some (.new q 0)) el.length ec ex)).set 13 (.int .i64 i)), [], h, none⟩ (by kernel_rfl) ?_
      refine WpM.opD (.ptr (some (.new q (0 + i.toNat * 2)))) _ (by kernel_rfl) (by kernel_rfl) (indexAddr_sl (e := 54) (a := (.new q 0)) (len := el.length) (lb := ec) (ex := ex) (z := 2) (k := .i64) (n := i) (by kernel_rfl) (by kernel_rfl) (by kernel_rfl) (by kernel_rfl) (by omega)) (by kernel_rfl) ?_
      refine WpM.run tab_ok 0 ⟨.draw m26_14 ((3, p26_14_3) :: o26_14.drop 4) [], [.seq x26_15, .blk 1, .seq x26_18, .loop x26_7, .blk 0, .seq x26_19], ((((E27 x q el ec ex pb d4 i d10 d11 d12 d13 d14 d15 d16 d17).set 12 (.slice (some (.new q 0)) el.length ec ex)).set 13 (.int .i64 i)).set 14 (.ptr (some (.new q (0 + i.toNat * 2))))), [], h, none⟩ (by kernel_rfl) ?_
      refine WpM.opD (.agg [.str ((gt el i).fName), .str ((gt el i).fValue)]) _ (by kernel_rfl) (by kernel_rfl) (load_new (o := (0 + i.toNat * 2)) (by kernel_rfl) (hX.keep lq hq) (rv_ldA (z := 2) (f := T54.cells) (fun _ => rfl) (i := i) (by omega) (off := 0) (n := 2) (by kernel_rfl) (by kernel_rfl) (by decide) (by decide) (by kernel_rfl) (by omega))) (by kernel_rfl) ?_
      refine WpM.run tab_ok 0 ⟨.draw m26_14 ((4, p26_14_4) :: o26_14.drop 5) [], [.seq x26_15, .blk 1, .seq x26_18, .loop x26_7, .blk 0, .seq x26_19], (((((E27 x q el ec ex pb d4 i d10 d11 d12 d13 d14 d15 d16 d17).set 12 (.slice (some (.new q 0)) el.length ec ex)).set 13 (.int .i64 i)).set 14 (.ptr (some (.new q (0 + i.toNat * 2))))).set 15 (.agg [.str ((gt el i).fName), .str ((gt el i).fValue)])), [], h, none⟩ (by kernel_rfl) ?_
      refine WpM.opD (.agg [.str x.fName, .str x.fValue]) _ (by kernel_rfl) (by kernel_rfl) (load_new (o := 0) (by kernel_rfl) gb (by kernel_rfl)) (by kernel_rfl) ?_
      refine WpM.run tab_ok 0 ⟨.draw m26_14 ((5, p26_14_5) :: o26_14.drop 6) [], [.seq x26_15, .blk 1, .seq x26_18, .loop x26_7, .blk 0, .seq x26_19], ((((((E27 x q el ec ex pb d4 i d10 d11 d12 d13 d14 d15 d16 d17).set 12 (.slice (some (.new q 0)) el.length ec ex)).set 13 (.int .i64 i)).set 14 (.ptr (some (.new q (0 + i.toNat * 2))))).set 15 (.agg [.str ((gt el i).fName), .str ((gt el i).fValue)])).set 16 (.agg [.str x.fName, .str x.fValue])), [], h, none⟩ (by kernel_rfl) ?_
      refine WpM.opD (.bool (((gt el i).fName) == x.fName && ((gt el i).fValue) == x.fValue)) _ (by kernel_rfl) (by kernel_rfl) (eq_agg (x := [.str ((gt el i).fName), .str ((gt el i).fValue)]) (y := [.str x.fName, .str x.fValue]) (by kernel_rfl) (by kernel_rfl) eq_TA) (by kernel_rfl) ?_
      refine WpM.run tab_ok 2 ⟨.code x26_15, [.blk 1, .seq x26_18, .loop x26_7, .blk 0, .seq x26_19], (E28 x q el ec ex pb d4 i d10 d11), [], h, none⟩ (by kernel_rfl) ?_
      refine WpM.cond (t := (((gt el i).fName) == x.fName && ((gt el i).fValue) == x.fValue)) (by kernel_rfl) (fun c102 => ?_) (fun c102 => ?_)
      · skip
        refine WpM.run tab_ok 11 ⟨.done .ret, [], ((E28 x q el ec ex pb d4 i d10 d11).set 4 (.bool true)), [], h, none⟩ (by kernel_rfl) ?_
        refine WpM.ret (.bool true) h (by kernel_rfl) (by kernel_rfl) ?_
        exact ⟨hX, congrArg V.bool (by rw [hA9, inFrom_step h0i (by omega), BEq.comm, beqA, c102, Bool.true_or])⟩
      · skip
        refine WpM.run tab_ok 5 ⟨.ops (p26_18_1 :: o26_18.drop 2), [.loop x26_7, .blk 0, .seq x26_19], ((E28 x q el ec ex pb d4 i d10 d11).set 10 (.int .i64 i)), [], h, none⟩ (by kernel_rfl) ?_
        refine WpM.op (.int .i64 (i + 1)) _ (by kernel_rfl) (arith_add (by kernel_rfl) (by kernel_rfl) (by omega)) ?_
        refine WpM.run tab_ok 3 ⟨.code x26_7, [.loop x26_7, .blk 0, .seq x26_19], (.agg [.str x.fName, .str x.fValue] :: .slice (some (.new q 0)) el.length ec ex :: .ptr (some (.new pb 0)) :: U :: d4 :: .int .i64 (i + 1) :: .int .i64 i :: .slice (some (.new q 0)) el.length ec ex :: .int .i64 ((el.length : Int)) :: .bool (decide (i < ((el.length : Int)))) :: .int .i64 i :: .int .i64 (i + 1) :: .slice (some (.new q 0)) el.length ec ex :: .int .i64 i :: .ptr (some (.new q (0 + i.toNat * 2))) :: .agg [.str ((gt el i).fName), .str ((gt el i).fValue)] :: .agg [.str x.fName, .str x.fValue] :: .bool (((gt el i).fName) == x.fName && ((gt el i).fValue) == x.fValue) :: []), [], h, none⟩ (by kernel_rfl) ?_
        refine ih _ ?_ _ h _ _ _ _ _ _ _ _ _ _ _ _ _ rfl ?_ ?_ ?_ ?_ ?_ ?_
        · omega
        · omega
        · omega
        · exact hX
        · exact gb
        · exact lb
        · rw [hA9, inFrom_step h0i (by omega), BEq.comm, beqA, c102, Bool.false_or]
    · have c101p := dec_f c101
      refine WpM.run tab_ok 11 ⟨.done .ret, [], ((E27 x q el ec ex pb d4 i d10 d11 d12 d13 d14 d15 d16 d17).set 4 (.bool false)), [], h, none⟩ (by kernel_rfl) ?_
      refine WpM.ret (.bool false) h (by kernel_rfl) (by kernel_rfl) ?_
      exact ⟨hX, congrArg V.bool (by rw [hA9, inFrom_end (by omega)])⟩
theorem in_ok {W : World} {q : Nat} {el : List T54} {ec : Nat} {ex : Bool} {x : T54} {h0 : H} (hb : el.length * 32 ≤ 140737488351232) (lq : q < h0.nx) (hq : h0.get q = some (.cells (rv T54.cells el) 54)) : WpF Try.prog W prim1 26 [.agg [.str x.fName, .str x.fValue], .slice (some (.new q 0)) el.length ec ex] h0 (fun v h' => HX h0 h' ∧ v = .bool (el.contains x)) := by
  refine WpF.m tab_ok (by kernel_rfl) rfl ?_
  refine WpM.cfg (c' := ⟨.code x26_0, [], (.agg [.str x.fName, .str x.fValue] :: .slice (some (.new q 0)) el.length ec ex :: us 16), [], h0, none⟩) (by kernel_rfl) ?_
  refine WpM.run tab_ok 2 ⟨.ops (p26_1_0 :: o26_1.drop 1), [.seq x26_2], (.agg [.str x.fName, .str x.fValue] :: .slice (some (.new q 0)) el.length ec ex :: us 16), [], h0, none⟩ (by kernel_rfl) ?_
  refine WpM.opA (fun p => .ptr (some (.new p 0))) (.cells [.str x.fName, .str x.fValue] 54) (by kernel_rfl) (by kernel_rfl) (fun p1 h2 a3 => ?_)
  refine WpM.run tab_ok 11 ⟨.code x26_7, [.loop x26_7, .blk 0, .seq x26_19], (.agg [.str x.fName, .str x.fValue] :: .slice (some (.new q 0)) el.length ec ex :: .ptr (some (.new p1 0)) :: U :: .bool false :: .int .i64 0 :: us 12), [], h2, none⟩ (by kernel_rfl) ?_
  exact in_loop hb lq hq _ 0 _ _ _ _ _ _ _ _ _ _ _ _ _ _ rfl (by omega) (by omega) ((HX.refl h0).alloc a3) a3.get a3.lt rfl
def E29 (q : Nat) (rl : List T54) (rm : Nat) (rx : Bool) (u : Nat) (el : List T54) (sm : Nat) (sx : Bool) (d4 : V) (i : Int) (d15 : V) (d16 : V) (d17 : V) (d18 : V) (d19 : V) (d20 : V) (d21 : V) (d22 : V) (d23 : V) (d24 : V) (d25 : V) (d26 : V) (d27 : V) (d28 : V) (d29 : V) (d30 : V) (d31 : V) (d32 : V) : List V := (.slice (some (.new q 0)) rl.length rm rx :: .slice (some (.new u 0)) el.length sm sx :: U :: U :: d4 :: .int .i64 i :: .slice (some (.new q 0)) rl.length rm rx :: .int .i64 ((rl.length : Int)) :: .slice (some (.new u 0)) el.length sm sx :: .int .i64 ((el.length : Int)) :: .bool (!(((rl.length : Int)) == ((el.length : Int)))) :: .int .i64 i :: .slice (some (.new q 0)) rl.length rm rx :: .int .i64 ((rl.length : Int)) :: .bool (decide (i < ((rl.length : Int)))) :: d15 :: d16 :: d17 :: d18 :: d19 :: d20 :: d21 :: d22 :: d23 :: d24 :: d25 :: d26 :: d27 :: d28 :: d29 :: d30 :: d31 :: d32 :: [])
def E30 (q : Nat) (rl : List T54) (rm : Nat) (rx : Bool) (u : Nat) (el : List T54) (sm : Nat) (sx : Bool) (i : Int) (d15 : V) (d16 : V) : List V := (.slice (some (.new q 0)) rl.length rm rx :: .slice (some (.new u 0)) el.length sm sx :: U :: U :: .bool false :: .int .i64 i :: .slice (some (.new q 0)) rl.length rm rx :: .int .i64 ((rl.length : Int)) :: .slice (some (.new u 0)) el.length sm sx :: .int .i64 ((el.length : Int)) :: .bool (!(((rl.length : Int)) == ((el.length : Int)))) :: .int .i64 i :: .slice (some (.new q 0)) rl.length rm rx :: .int .i64 ((rl.length : Int)) :: .bool (decide (i < ((rl.length : Int)))) :: d15 :: d16 :: .slice (some (.new q 0)) rl.length rm rx :: .int .i64 i :: .ptr (some (.new q (0 + i.toNat * 2))) :: .agg [.str ((gt rl i).fName), .str ((gt rl i).fValue)] :: .slice (some (.new u 0)) el.length sm sx :: .bool (el.contains (gt rl i)) :: .bool (!(el.contains (gt rl i))) :: .bool true :: U :: U :: U :: U :: U :: U :: U :: .bool true :: [])
theorem rs_loop {W : World} {q u : Nat} {rl el : List T54} {rm sm : Nat} {rx sx : Bool} {h0 : H} (hb : rl.length * 32 ≤ 140737488351232) (hb2 : el.length * 32 ≤ 140737488351232) (lq : q < h0.nx) (hq : h0.get q = some (.cells (rv T54.cells rl) 54)) (lu : u < h0.nx) (hu : h0.get u = some (.cells (rv T54.cells el) 54)) (hl9 : rl.length = el.length) (n : Nat) : ∀ (i : Int) (h : H) (d4 d11 d12 d13 d14 d15 d16 d17 d18 d19 d20 d21 d22 d23 d24 d25 d26 d27 d28 d29 d30 d31 d32 : V), n = ((rl.length : Int) - i).toNat → (0 ≤ i) → (i ≤ (rl.length : Int)) → (HX h0 h) → (sameL rl el = smFrom rl el i) → WpM Try.prog W prim1 ⟨.code x11_13, [.loop x11_13, .blk 0, .seq x11_25], (.slice (some (.new q 0)) rl.length rm rx :: .slice (some (.new u 0)) el.length sm sx :: U :: U :: d4 :: .int .i64 i :: .slice (some (.new q 0)) rl.length rm rx :: .int .i64 ((rl.length : Int)) :: .slice (some (.new u 0)) el.length sm sx :: .int .i64 ((el.length : Int)) :: .bool (!(((rl.length : Int)) == ((el.length : Int)))) :: d11 :: d12 :: d13 :: d14 :: d15 :: d16 :: d17 :: d18 :: d19 :: d20 :: d21 :: d22 :: d23 :: d24 :: d25 :: d26 :: d27 :: d28 :: d29 :: d30 :: d31 :: d32 :: []), [], h, none⟩ (retQ Try.prog W [.tmp 4] (fun v h' => HX h0 h' ∧ v = .bool (sameL rl el))) := by
  induction n using Nat.strongRecOn with
  | _ n ih =>
    intro i h d4 d11 d12 d13 d14 d15 d16 d17 d18 d19 d20 d21 d22 d23 d24 d25 d26 d27 d28 d29 d30 d31 d32 hn h0i h1i hX hA9
    refine WpM.run tab_ok 9 ⟨.code x11_16, [.seq x11_17, .loop x11_13, .blk 0, .seq x11_25], (E29 q rl rm rx u el sm sx d4 i d15 d16 d17 d18 d19 d20 d21 d22 d23 d24 d25 d26 d27 d28 d29 d30 d31 d32), [], h, none⟩ (by kernel_rfl) ?_
    refine WpM.cond (t := (decide (i < ((rl.length : Int))))) (by kernel_rfl) (fun c101 => ?_) (fun c101 => ?_)
    · have c101p := dec_t c101
      refine WpM.run tab_ok 8 ⟨.ops (p11_20_2 :: o11_20.drop 3), [.seq x11_21, .blk 1, .seq x11_24, .loop x11_13, .blk 0, .seq x11_25], (((E29 q rl rm rx u el sm sx d4 i d15 d16 d17 d18 d19 d20 d21 d22 d23 d24 d25 d26 d27 d28 d29 d30 d31 d32).set 17 (.slice (some (.new q 0)) rl.length rm rx)).set 18 (.int .i64 i)), [], h, none⟩ (by kernel_rfl) ?_
      refine WpM.op (.ptr (some (.new q (0 + i.toNat * 2)))) _ (by kernel_rfl) (indexAddr_sl (e := 54) (a := (.new q 0)) (len := rl.length) (lb := rm) (ex := rx) (z := 2) (k := .i64) (n := i) (by kernel_rfl) (by kernel_rfl) (by kernel_rfl) (by kernel_rfl) (by omega)) ?_
      refine WpM.run tab_ok 0 ⟨.ops (p11_20_3 :: o11_20.drop 4), [.seq x11_21, .blk 1, .seq x11_24, .loop x11_13, .blk 0, .seq x11_25], ((((E29 q rl rm rx u el sm sx d4 i d15 d16 d17 d18 d19 d20 d21 d22 d23 d24 d25 d26 d27 d28 d29 d30 d31 d32).set 17 (.slice (some (.new q 0)) rl.length rm rx)).set 18 (.int .i64 i)).set 19 (.ptr (some (.new q (0 + i.toNat * 2))))), [], h, none⟩ (by kernel_rfl) ?_
      refine WpM.op (.agg [.str ((gt rl i).fName), .str ((gt rl i).fValue)]) _ (by kernel_rfl) (load_new (o := (0 + i.toNat * 2)) (by kernel_rfl) (hX.keep lq hq) (rv_ldA (z := 2) (f := T54.cells) (fun _ => rfl) (i := i) (by omega) (off := 0) (n := 2) (by kernel_rfl) (by kernel_rfl) (by decide) (by decide) (by kernel_rfl) (by omega))) ?_
      refine WpM.run tab_ok 1 ⟨.ops (p11_20_5 :: o11_20.drop 6), [.seq x11_21, .blk 1, .seq x11_24, .loop x11_13, .blk 0, .seq x11_25], ((((((E29 q rl rm rx u el sm sx d4 i d15 d16 d17 d18 d19 d20 d21 d22 d23 d24 d25 d26 d27 d28 d29 d30 d31 d32).set 17 (.slice (some (.new q 0)) rl.length rm rx)).set 18 (.int .i64 i)).set 19 (.ptr (some (.new q (0 + i.toNat * 2))))).set 20 (.agg [.str ((gt rl i).fName), .str ((gt rl i).fValue)])).set 21 (.slice (some (.new u 0)) el.length sm sx)), [], h, none⟩ (by kernel_rfl) ?_
      refine WpM.call 26 [.agg [.str ((gt rl i).fName), .str ((gt rl i).fValue)], .slice (some (.new u 0)) el.length sm sx] (by kernel_rfl) (by kernel_rfl) ?_
      refine WpF.mono (in_ok (x := (gt rl i)) (by omega) (hX.le lu) (hX.keep lu hu)) ?_
      rintro _ h102 ⟨a103, rfl⟩
      refine WpM.run tab_ok 2 ⟨.ops (p11_20_8 :: o11_20.drop 9), [.seq x11_21, .blk 1, .seq x11_24, .loop x11_13, .blk 0, .seq x11_25], (((((((((E29 q rl rm rx u el sm sx d4 i d15 d16 d17 d18 d19 d20 d21 d22 d23 d24 d25 d26 d27 d28 d29 d30 d31 d32).set 17 (.slice (some (.new q 0)) rl.length rm rx)).set 18 (.int .i64 i)).set 19 (.ptr (some (.new q (0 + i.toNat * 2))))).set 20 (.agg [.str ((gt rl i).fName), .str ((gt rl i).fValue)])).set 21 (.slice (some (.new u 0)) el.length sm sx)).set 22 (.bool (el.contains (gt rl i)))).set 23 (.bool (!(el.contains (gt rl i))))).set 24 (.bool (!(el.contains (gt rl i))))), [], h102, none⟩ (by kernel_rfl) ?_
      refine WpM.guard (b := (!(el.contains (gt rl i)))) (by kernel_rfl) (fun c104 => ?_) (fun c104 => ?_)
      · have c104p := not_t c104
        refine WpM.run tab_ok 22 ⟨.done .ret, [], (E30 q rl rm rx u el sm sx i d15 d16), [], h102, none⟩ (by kernel_rfl) ?_
        refine WpM.ret (.bool false) h102 (by kernel_rfl) (by kernel_rfl) ?_
        exact ⟨(hX.trans a103), congrArg V.bool (by rw [hA9, smFrom_step hl9 h0i (by omega)]; simp only [(of_not_t c104), Bool.true_and, Bool.false_and, Bool.and_true, Bool.and_false, Bool.or_false, Bool.false_or, Bool.true_or, Bool.or_true, Bool.not_true, Bool.not_false])⟩
      · have c104p := not_f c104
        refine WpM.run tab_ok 2 ⟨.ops (p11_20_10 :: o11_20.drop 11), [.seq x11_21, .blk 1, .seq x11_24, .loop x11_13, .blk 0, .seq x11_25], (((((((((((E30 q rl rm rx u el sm sx i d15 d16).set 4 d4).set 24 (.bool false)).set 25 (.slice (some (.new u 0)) el.length sm sx)).set 26 (.int .i64 i)).set 27 d27).set 28 d28).set 29 d29).set 30 d30).set 31 d31).set 32 d32), [], h102, none⟩ (by kernel_rfl) ?_
        refine WpM.op (.ptr (some (.new u (0 + i.toNat * 2)))) _ (by kernel_rfl) (indexAddr_sl (e := 54) (a := (.new u 0)) (len := el.length) (lb := sm) (ex := sx) (z := 2) (k := .i64) (n := i) (by kernel_rfl) (by kernel_rfl) (by kernel_rfl) (by kernel_rfl) (by omega)) ?_
        refine WpM.run tab_ok 0 ⟨.ops (p11_20_11 :: o11_20.drop 12), [.seq x11_21, .blk 1, .seq x11_24, .loop x11_13, .blk 0, .seq x11_25], (((((((((((E30 q rl rm rx u el sm sx i d15 d16).set 4 d4).set 24 (.bool false)).set 25 (.slice (some (.new u 0)) el.length sm sx)).set 26 (.int .i64 i)).set 27 (.ptr (some (.new u (0 + i.toNat * 2))))).set 28 d28).set 29 d29).set 30 d30).set 31 d31).set 32 d32), [], h102, none⟩ (by kernel_rfl) ?_
        refine WpM.op (.agg [.str ((gt el i).fName), .str ((gt el i).fValue)]) _ (by kernel_rfl) (load_new (o := (0 + i.toNat * 2)) (by kernel_rfl) (a103.keep (hX.le lu) (hX.keep lu hu)) (rv_ldA (z := 2) (f := T54.cells) (fun _ => rfl) (i := i) (by omega) (off := 0) (n := 2) (by kernel_rfl) (by kernel_rfl) (by decide) (by decide) (by kernel_rfl) (by omega))) ?_
        refine WpM.run tab_ok 1 ⟨.ops (p11_20_13 :: o11_20.drop 14), [.seq x11_21, .blk 1, .seq x11_24, .loop x11_13, .blk 0, .seq x11_25], (((((((((((E30 q rl rm rx u el sm sx i d15 d16).set 4 d4).set 24 (.bool false)).set 25 (.slice (some (.new u 0)) el.length sm sx)).set 26 (.int .i64 i)).set 27 (.ptr (some (.new u (0 + i.toNat * 2))))).set 28 (.agg [.str ((gt el i).fName), .str ((gt el i).fValue)])).set 29 (.slice (some (.new q 0)) rl.length rm rx)).set 30 d30).set 31 d31).set 32 d32), [], h102, none⟩ (by kernel_rfl) ?_
        refine WpM.call 26 [.agg [.str ((gt el i).fName), .str ((gt el i).fValue)], .slice (some (.new q 0)) rl.length rm rx] (by kernel_rfl) (by kernel_rfl) ?_
        refine WpF.mono (in_ok (x := (gt el i)) (by omega) (a103.le (hX.le lq)) (a103.keep (hX.le lq) (hX.keep lq hq))) ?_
        rintro _ h105 ⟨a106, rfl⟩
        refine WpM.run tab_ok 4 ⟨.code x11_21, [.blk 1, .seq x11_24, .loop x11_13, .blk 0, .seq x11_25], (((((((((((E30 q rl rm rx u el sm sx i d15 d16).set 4 d4).set 24 (.bool false)).set 25 (.slice (some (.new u 0)) el.length sm sx)).set 26 (.int .i64 i)).set 27 (.ptr (some (.new u (0 + i.toNat * 2))))).set 28 (.agg [.str ((gt el i).fName), .str ((gt el i).fValue)])).set 29 (.slice (some (.new q 0)) rl.length rm rx)).set 30 (.bool (rl.contains (gt el i)))).set 31 (.bool (!(rl.contains (gt el i))))).set 32 (.bool (!(rl.contains (gt el i))))), [], h105, none⟩ (by kernel_rfl) ?_
        refine WpM.cond (t := (!(rl.contains (gt el i)))) (by kernel_rfl) (fun c107 => ?_) (fun c107 => ?_)
        · have c107p := not_t c107
          refine WpM.run tab_ok 11 ⟨.done .ret, [], ((((((((((E30 q rl rm rx u el sm sx i d15 d16).set 24 (.bool false)).set 25 (.slice (some (.new u 0)) el.length sm sx)).set 26 (.int .i64 i)).set 27 (.ptr (some (.new u (0 + i.toNat * 2))))).set 28 (.agg [.str ((gt el i).fName), .str ((gt el i).fValue)])).set 29 (.slice (some (.new q 0)) rl.length rm rx)).set 30 (.bool (rl.contains (gt el i)))).set 31 (.bool (!(rl.contains (gt el i))))).set 32 (.bool (!(rl.contains (gt el i))))), [], h105, none⟩ (by kernel_rfl) ?_
          refine WpM.ret (.bool false) h105 (by kernel_rfl) (by kernel_rfl) ?_
          exact ⟨((hX.trans a103).trans a106), congrArg V.bool (by rw [hA9, smFrom_step hl9 h0i (by omega)]; simp only [(of_not_f c104), (of_not_t c107), Bool.true_and, Bool.false_and, Bool.and_true, Bool.and_false, Bool.or_false, Bool.false_or, Bool.true_or, Bool.or_true, Bool.not_true, Bool.not_false])⟩
        · have c107p := not_f c107
          refine WpM.run tab_ok 5 ⟨.ops (p11_24_1 :: o11_24.drop 2), [.loop x11_13, .blk 0, .seq x11_25], ((((((((((((E30 q rl rm rx u el sm sx i d15 d16).set 4 d4).set 15 (.int .i64 i)).set 24 (.bool false)).set 25 (.slice (some (.new u 0)) el.length sm sx)).set 26 (.int .i64 i)).set 27 (.ptr (some (.new u (0 + i.toNat * 2))))).set 28 (.agg [.str ((gt el i).fName), .str ((gt el i).fValue)])).set 29 (.slice (some (.new q 0)) rl.length rm rx)).set 30 (.bool (rl.contains (gt el i)))).set 31 (.bool (!(rl.contains (gt el i))))).set 32 (.bool (!(rl.contains (gt el i))))), [], h105, none⟩ (by kernel_rfl) ?_
          refine WpM.op (.int .i64 (i + 1)) _ (by kernel_rfl) (arith_add (by kernel_rfl) (by kernel_rfl) (by omega)) ?_
          refine WpM.run tab_ok 3 ⟨.code x11_13, [.loop x11_13, .blk 0, .seq x11_25], (.slice (some (.new q 0)) rl.length rm rx :: .slice (some (.new u 0)) el.length sm sx :: U :: U :: d4 :: .int .i64 (i + 1) :: .slice (some (.new q 0)) rl.length rm rx :: .int .i64 ((rl.length : Int)) :: .slice (some (.new u 0)) el.length sm sx :: .int .i64 ((el.length : Int)) :: .bool (!(((rl.length : Int)) == ((el.length : Int)))) :: .int .i64 i :: .slice (some (.new q 0)) rl.length rm rx :: .int .i64 ((rl.length : Int)) :: .bool (decide (i < ((rl.length : Int)))) :: .int .i64 i :: .int .i64 (i + 1) :: .slice (some (.new q 0)) rl.length rm rx :: .int .i64 i :: .ptr (some (.new q (0 + i.toNat * 2))) :: .agg [.str ((gt rl i).fName), .str ((gt rl i).fValue)] :: .slice (some (.new u 0)) el.length sm sx :: .bool (el.contains (gt rl i)) :: .bool (!(el.contains (gt rl i))) :: .bool false :: .slice (some (.new u 0)) el.length sm sx :: .int .i64 i :: .ptr (some (.new u (0 + i.toNat * 2))) :: .agg [.str ((gt el i).fName), .str ((gt el i).fValue)] :: .slice (some (.new q 0)) rl.length rm rx :: .bool (rl.contains (gt el i)) :: .bool (!(rl.contains (gt el i))) :: .bool (!(rl.contains (gt el i))) :: []), [], h105, none⟩ (by kernel_rfl) ?_
          refine ih _ ?_ _ h105 _ _ _ _ _ _ _ _ _ _ _ _ _ _ _ _ _ _ _ _ _ _ _ rfl ?_ ?_ ?_ ?_
          · omega
          · omega
          · omega
          · exact ((hX.trans a103).trans a106)
          · rw [hA9, smFrom_step hl9 h0i (by omega)]; simp only [(of_not_f c104), (of_not_f c107), Bool.true_and, Bool.false_and, Bool.and_true, Bool.and_false, Bool.or_false, Bool.false_or, Bool.true_or, Bool.or_true, Bool.not_true, Bool.not_false]
    · have c101p := dec_f c101
      refine WpM.run tab_ok 11 ⟨.done .ret, [], ((E29 q rl rm rx u el sm sx d4 i d15 d16 d17 d18 d19 d20 d21 d22 d23 d24 d25 d26 d27 d28 d29 d30 d31 d32).set 4 (.bool true)), [], h, none⟩ (by kernel_rfl) ?_
      refine WpM.ret (.bool true) h (by kernel_rfl) (by kernel_rfl) ?_
      exact ⟨hX, congrArg V.bool (by rw [hA9, smFrom_end hl9 (by omega)])⟩
def E31 (q : Nat) (rl : List T54) (rm : Nat) (rx : Bool) (u : Nat) (el : List T54) (sm : Nat) (sx : Bool) : List V := (.slice (some (.new q 0)) rl.length rm rx :: .slice (some (.new u 0)) el.length sm sx :: U :: U :: .bool false :: U :: .slice (some (.new q 0)) rl.length rm rx :: .int .i64 ((rl.length : Int)) :: .slice (some (.new u 0)) el.length sm sx :: .int .i64 ((el.length : Int)) :: .bool (!(((rl.length : Int)) == ((el.length : Int)))) :: us 22)
theorem rs_rows {W : World} {q u : Nat} {rl el : List T54} {rm sm : Nat} {rx sx : Bool} {h0 : H} (hb : rl.length * 32 ≤ 140737488351232) (hb2 : el.length * 32 ≤ 140737488351232) (lq : q < h0.nx) (hq : h0.get q = some (.cells (rv T54.cells rl) 54)) (lu : u < h0.nx) (hu : h0.get u = some (.cells (rv T54.cells el) 54)) : WpF Try.prog W prim1 11 [.slice (some (.new q 0)) rl.length rm rx, .slice (some (.new u 0)) el.length sm sx] h0 (fun v h' => HX h0 h' ∧ v = .bool (sameL rl el)) := by
  refine WpF.m tab_ok (by kernel_rfl) rfl ?_
  refine WpM.cfg (c' := ⟨.code x11_0, [], (.slice (some (.new q 0)) rl.length rm rx :: .slice (some (.new u 0)) el.length sm sx :: us 31), [], h0, none⟩) (by kernel_rfl) ?_
  refine WpM.run tab_ok 15 ⟨.code x11_5, [.seq x11_8], (E31 q rl rm rx u el sm sx), [], h0, none⟩ (by kernel_rfl) ?_
  refine WpM.cond (t := (!(((rl.length : Int)) == ((el.length : Int))))) (by kernel_rfl) (fun c1 => ?_) (fun c1 => ?_)
  · have c1p := nbeq_t c1
    refine WpM.run tab_ok 7 ⟨.done .ret, [], (E31 q rl rm rx u el sm sx), [], h0, none⟩ (by kernel_rfl) ?_
    refine WpM.ret (.bool false) h0 (by kernel_rfl) (by kernel_rfl) ?_
    have hl9 : ¬ (rl.length = el.length) := by omega
    exact ⟨(HX.refl h0), congrArg V.bool (by unfold sameL; simp [hl9])⟩
  · have c1p := nbeq_f c1
    refine WpM.run tab_ok 10 ⟨.code x11_13, [.loop x11_13, .blk 0, .seq x11_25], (.slice (some (.new q 0)) rl.length rm rx :: .slice (some (.new u 0)) el.length sm sx :: U :: U :: .bool false :: .int .i64 0 :: .slice (some (.new q 0)) rl.length rm rx :: .int .i64 ((rl.length : Int)) :: .slice (some (.new u 0)) el.length sm sx :: .int .i64 ((el.length : Int)) :: .bool (!(((rl.length : Int)) == ((el.length : Int)))) :: us 22), [], h0, none⟩ (by kernel_rfl) ?_
    have hl9 : rl.length = el.length := by omega
    exact rs_loop hb hb2 lq hq lu hu hl9 _ 0 _ _ _ _ _ _ _ _ _ _ _ _ _ _ _ _ _ _ _ _ _ _ _ _ rfl (by omega) (by omega) (HX.refl h0) (smFrom_zero hl9).symm
def E32 (ra : Option Ad) (rm : Nat) (rx : Bool) (ea : Option Ad) (el : List T54) (ec : Nat) (ex : Bool) : List V := (.slice ra 0 rm rx :: .slice ea el.length ec ex :: U :: U :: .bool false :: U :: .slice ra 0 rm rx :: .int .i64 0 :: .slice ea el.length ec ex :: .int .i64 ((el.length : Int)) :: .bool (!((0 : Int) == ((el.length : Int)))) :: us 22)
theorem rs_zero {W : World} {ra ea : Option Ad} {el : List T54} {rm ec : Nat} {rx ex : Bool} {h0 : H} : WpF Try.prog W prim1 11 [.slice ra 0 rm rx, .slice ea el.length ec ex] h0 (fun v h' => HX h0 h' ∧ v = .bool (sameL ([] : List T54) el)) := by
  refine WpF.m tab_ok (by kernel_rfl) rfl ?_
  refine WpM.cfg (c' := ⟨.code x11_0, [], (.slice ra 0 rm rx :: .slice ea el.length ec ex :: us 31), [], h0, none⟩) (by kernel_rfl) ?_
  refine WpM.run tab_ok 15 ⟨.code x11_5, [.seq x11_8], (E32 ra rm rx ea el ec ex), [], h0, none⟩ (by kernel_rfl) ?_
  refine WpM.cond (t := (!((0 : Int) == ((el.length : Int))))) (by kernel_rfl) (fun c1 => ?_) (fun c1 => ?_)
  · have c1p := nbeq_t c1
    refine WpM.run tab_ok 7 ⟨.done .ret, [], (E32 ra rm rx ea el ec ex), [], h0, none⟩ (by kernel_rfl) ?_
    refine WpM.ret (.bool false) h0 (by kernel_rfl) (by kernel_rfl) ?_
    have hl9 : ¬ (el.length = 0) := by omega
    exact ⟨(HX.refl h0), congrArg V.bool (by cases el with
      | nil => simp at hl9
      | cons a t => rfl)⟩
  · have c1p := nbeq_f c1
    refine WpM.run tab_ok 31 ⟨.done .ret, [], (((((((E32 ra rm rx ea el ec ex).set 4 (.bool true)).set 5 (.int .i64 0)).set 11 (.int .i64 0)).set 12 (.slice ra 0 rm rx)).set 13 (.int .i64 0)).set 14 (.bool false)), [], h0, none⟩ (by kernel_rfl) ?_
    refine WpM.ret (.bool true) h0 (by kernel_rfl) (by kernel_rfl) ?_
    have hl9 : el = [] := List.eq_nil_of_length_eq_zero (by omega)
    exact ⟨(HX.refl h0), congrArg V.bool (by rw [hl9]; rfl)⟩
def E33 (ra : Option Ad) (rl : List T54) (rm : Nat) (rx : Bool) (ea : Option Ad) (ec : Nat) (ex : Bool) : List V := (.slice ra rl.length rm rx :: .slice ea 0 ec ex :: U :: U :: .bool false :: U :: .slice ra rl.length rm rx :: .int .i64 ((rl.length : Int)) :: .slice ea 0 ec ex :: .int .i64 0 :: .bool (!(((rl.length : Int)) == 0)) :: us 22)
def E34 (ra : Option Ad) (rl : List T54) (rm : Nat) (rx : Bool) (ea : Option Ad) (ec : Nat) (ex : Bool) : List V := (.slice ra rl.length rm rx :: .slice ea 0 ec ex :: U :: U :: .bool true :: .int .i64 0 :: .slice ra rl.length rm rx :: .int .i64 ((rl.length : Int)) :: .slice ea 0 ec ex :: .int .i64 0 :: .bool (!(((rl.length : Int)) == 0)) :: .int .i64 0 :: .slice ra rl.length rm rx :: .int .i64 ((rl.length : Int)) :: .bool (decide ((0 : Int) < ((rl.length : Int)))) :: us 18)
theorem rs_zero2 {W : World} {ra ea : Option Ad} {rl : List T54} {rm ec : Nat} {rx ex : Bool} {h0 : H} : WpF Try.prog W prim1 11 [.slice ra rl.length rm rx, .slice ea 0 ec ex] h0 (fun v h' => HX h0 h' ∧ v = .bool (sameL rl ([] : List T54))) := by
  refine WpF.m tab_ok (by kernel_rfl) rfl ?_
  refine WpM.cfg (c' := ⟨.code x11_0, [], (.slice ra rl.length rm rx :: .slice ea 0 ec ex :: us 31), [], h0, none⟩) (by kernel_rfl) ?_
  refine WpM.run tab_ok 15 ⟨.code x11_5, [.seq x11_8], (E33 ra rl rm rx ea ec ex), [], h0, none⟩ (by kernel_rfl) ?_
  refine WpM.cond (t := (!(((rl.length : Int)) == 0))) (by kernel_rfl) (fun c1 => ?_) (fun c1 => ?_)
  · have c1p := nbeq_t c1
    refine WpM.run tab_ok 7 ⟨.done .ret, [], (E33 ra rl rm rx ea ec ex), [], h0, none⟩ (by kernel_rfl) ?_
    refine WpM.ret (.bool false) h0 (by kernel_rfl) (by kernel_rfl) ?_
    have hl9 : ¬ (rl.length = 0) := by omega
    exact ⟨(HX.refl h0), congrArg V.bool (by cases rl with
      | nil => simp at hl9
      | cons a t => rfl)⟩
  · have c1p := nbeq_f c1
    refine WpM.run tab_ok 19 ⟨.code x11_16, [.seq x11_17, .loop x11_13, .blk 0, .seq x11_25], ((((((E33 ra rl rm rx ea ec ex).set 5 (.int .i64 0)).set 11 (.int .i64 0)).set 12 (.slice ra rl.length rm rx)).set 13 (.int .i64 ((rl.length : Int)))).set 14 (.bool (decide ((0 : Int) < ((rl.length : Int)))))), [], h0, none⟩ (by kernel_rfl) ?_
    refine WpM.cond (t := (decide ((0 : Int) < ((rl.length : Int))))) (by kernel_rfl) (fun c2 => ?_) (fun c2 => ?_)
    · have c2p := dec_t c2
      exfalso; omega
    · have c2p := dec_f c2
      refine WpM.run tab_ok 11 ⟨.done .ret, [], (E34 ra rl rm rx ea ec ex), [], h0, none⟩ (by kernel_rfl) ?_
      refine WpM.ret (.bool true) h0 (by kernel_rfl) (by kernel_rfl) ?_
      have hl9 : rl = [] := List.eq_nil_of_length_eq_zero (by omega)
      exact ⟨(HX.refl h0), congrArg V.bool (by rw [hl9]; rfl)⟩
theorem rs_ok {W : World} {r s : RE} {h0 : H} (hr : AtOK h0 r) (hs : AtOK h0 s) : WpF Try.prog W prim1 11 [.slice r.a r.n r.m r.x, .slice s.a s.n s.m s.x] h0 (fun v h' => HX h0 h' ∧ v = .bool (sameL r.l s.l)) := by
  rw [hr.n, hs.n]
  rcases Nat.eq_zero_or_pos r.l.length with h1 | h1
  · rw [List.eq_nil_of_length_eq_zero h1]; exact rs_zero
  · rcases Nat.eq_zero_or_pos s.l.length with h2 | h2
    · rw [List.eq_nil_of_length_eq_zero h2]; exact rs_zero2
    · obtain ⟨q, ea, lq, hq⟩ := hr.g h1
      obtain ⟨u, eb, lu, hu⟩ := hs.g h2
      rw [ea, eb]
      exact rs_rows hr.b hs.b lq hq lu hu
end Go.Proofs.Ytplcallbihapdaa.Dg
