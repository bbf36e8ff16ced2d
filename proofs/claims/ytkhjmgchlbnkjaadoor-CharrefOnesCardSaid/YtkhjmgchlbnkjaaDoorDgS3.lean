import Derived.Test.YtkhjmgchlbnkjaaDoorDgS2
import Derived.Laws.StructEq
import Derived.Laws.BytesArg
import Derived.Laws.Slices
set_option linter.unusedVariables false
set_option linter.unusedSimpArgs false
namespace Go.Proofs.YtkhjmgchlbnkjaaDoor.Dg
open Go Go.RowKit
def VOK (P : Program) (W : World) (μ : Mu) (h : H) (w : World) (s : Sem Value) (v : V) (h' : H) : Prop :=
 ∃ μ' w' x, s.run P w = .ok x w' ∧ VR μ' v x ∧ Go1 P W μ h w μ' h' w'
section
variable {P : Program} {W : World} {μ : Mu} {h : H} {w : World}
theorem VOK.pure (hr : HR P W μ h w) {s : Sem Value} {v : V} {x : Value} (hs : s.run P w = .ok x w) (hv : VR μ v x) : VOK P W μ h w s v h :=
 ⟨μ, w, x, hs, hv, Go1.refl hr⟩
theorem VR.int_of {k : IntKind} {n : Int} {x : Value} (h : VR μ (.int k n) x) : x = .int k n := by simpa [VR] using h
theorem VR.bool_of {b : Bool} {x : Value} (h : VR μ (.bool b) x) : x = .bool b := by simpa [VR] using h
theorem VR.mk_int (k : IntKind) (n : Int) : VR μ (.int k n) (.int k n) := by simp [VR]
theorem VR.mk_bool (b : Bool) : VR μ (.bool b) (.bool b) := by simp [VR]
theorem VR.mk_str (b : ByteArray) : VR μ (.str b.data.toList) (.string b) := by simp only [VR]; exact ⟨b, rfl, rfl⟩
theorem VR.mk_str' (s : List UInt8) : VR μ (.str s) (.string ⟨s.toArray⟩) := by simp only [VR]; exact ⟨_, rfl, rfl⟩
theorem toList_data (b : ByteArray) : b.toList = b.data.toList := ByteArray.toList_eq ..
theorem run_intOp {op : BinOp} {k : IntKind} {a b : Int} {v : V} (t : TypeId) (hs : intOp op k a b = some v) : ∃ x, (Go.binOp op t (.int k a) (.int k b)).run P w = .ok x w ∧ VR μ v x := by
 cases op <;> simp only [intOp] at hs
 case quo =>
  split at hs
  ·cases hs
  ·rename_i hne
   injection hs with hs; subst hs
   exact ⟨_, by simp [Go.binOp, Op.intDiv, hne], VR.mk_int _ _⟩
 case rem =>
  split at hs
  ·cases hs
  ·rename_i hne
   injection hs with hs; subst hs
   exact ⟨_, by simp [Go.binOp, Op.intDiv, hne], VR.mk_int _ _⟩
 case shl => cases hs
 case shr => cases hs
 case and =>
  injection hs with hs; subst hs
  exact ⟨_, by simp only [Go.binOp, ne_eq, not_true_eq_false, if_false, Op.intBits, Sem.run_pure], VR.mk_int _ _⟩
 case or =>
  injection hs with hs; subst hs
  exact ⟨_, by simp only [Go.binOp, ne_eq, not_true_eq_false, if_false, Op.intBits, Sem.run_pure], VR.mk_int _ _⟩
 case xor =>
  injection hs with hs; subst hs
  exact ⟨_, by simp only [Go.binOp, ne_eq, not_true_eq_false, if_false, Op.intBits, Sem.run_pure], VR.mk_int _ _⟩
 case andNot =>
  injection hs with hs; subst hs
  exact ⟨_, by simp only [Go.binOp, ne_eq, not_true_eq_false, if_false, Op.intBits, Sem.run_pure], VR.mk_int _ _⟩
 case add =>
  injection hs with hs; subst hs
  exact ⟨_, by simp [Go.binOp, Op.intArith], VR.mk_int _ _⟩
 case sub =>
  injection hs with hs; subst hs
  exact ⟨_, by simp [Go.binOp, Op.intArith], VR.mk_int _ _⟩
 case mul =>
  injection hs with hs; subst hs
  exact ⟨_, by simp [Go.binOp, Op.intArith], VR.mk_int _ _⟩
 case eql =>
  injection hs with hs; subst hs
  exact ⟨_, by simp [Go.binOp, Op.intCmp], VR.mk_bool _⟩
 case neq =>
  injection hs with hs; subst hs
  exact ⟨_, by simp [Go.binOp, Op.intCmp], VR.mk_bool _⟩
 case lss =>
  injection hs with hs; subst hs
  exact ⟨_, by simp [Go.binOp, Op.intCmp], VR.mk_bool _⟩
 case leq =>
  injection hs with hs; subst hs
  exact ⟨_, by simp [Go.binOp, Op.intCmp], VR.mk_bool _⟩
 case gtr =>
  injection hs with hs; subst hs
  exact ⟨_, by simp [Go.binOp, Op.intCmp], VR.mk_bool _⟩
 case geq =>
  injection hs with hs; subst hs
  exact ⟨_, by simp [Go.binOp, Op.intCmp], VR.mk_bool _⟩
theorem run_shiftOp {op : BinOp} {k k' : IntKind} {a b : Int} {v : V} (t : TypeId) (ho : op = .shl ∨ op = .shr) (hs : shiftOp op k a b = some v) : ∃ x, (Go.binOp op t (.int k a) (.int k' b)).run P w = .ok x w ∧ VR μ v x := by
 unfold shiftOp at hs
 split at hs
 ·cases hs
 ·rename_i hne
  rcases ho with rfl | rfl
  ·injection hs with hs; subst hs
   exact ⟨_, by simp [Go.binOp, Op.shift, hne], VR.mk_int _ _⟩
  ·injection hs with hs; subst hs
   exact ⟨_, by simp [Go.binOp, Op.shift, hne], VR.mk_int _ _⟩
theorem run_strOp {op : BinOp} {a b : ByteArray} {v : V} (t : TypeId) (hs : strOp op a.data.toList b.data.toList = some v) : ∃ x, (Go.binOp op t (.string a) (.string b)).run P w = .ok x w ∧ VR μ v x := by
 unfold strOp at hs
 cases op <;> (try (simp only [reduceCtorEq] at hs))
 case add =>
  split at hs
  ·rename_i hl
   injection hs with hs; subst hs
   refine ⟨.string (a ++ b), ?_, ?_⟩
   ·have ha : a.size = a.data.toList.length := by rw [Array.length_toList]; rfl
    have hb : b.size = b.data.toList.length := by rw [Array.length_toList]; rfl
    have : ¬ (((a.size + b.size : Nat) : Int) > IntKind.i64.max) := by
     rw [ha, hb]
     have : IntKind.i64.max = 9223372036854775807 := by decide
     omega
    simp only [Go.binOp, Op.stringOp, this, if_false, Sem.run_pure]
   ·simp only [VR]
    exact ⟨_, rfl, by simp [ByteArray.data_append]⟩
  ·cases hs
 all_goals
  (injection hs with hs; subst hs
   exact ⟨_, by simp [Go.binOp, Op.stringOp, toList_data], VR.mk_bool _⟩)
theorem run_part_both {t : TypeId} {cs : List V} {c : Array Value} {off : Nat} {v : V} (hc : VRL μ cs c.toList) (hp : Dg.part P t cs off = some v) :
  ∃ x, (∀ w : World, (Go.part t c off).run P w = .ok x w) ∧ VR μ v x := by
 obtain ⟨x, hx, hv⟩ := run_part_spec (w := default) hc hp
 refine ⟨x, fun w' => ?_, hv⟩
 obtain ⟨z, hz, _⟩ := run_part_spec (w := w') hc hp
 have key : ∀ w1 w2 : World, ∀ u1 u2, (Go.part t c off).run P w1 = .ok u1 w1 → (Go.part t c off).run P w2 = .ok u2 w2 → u1 = u2 := by
  intro w1 w2 u1 u2 h1 h2
  unfold Dg.part at hp
  split at hp
  ·rename_i hagg
   split at hp
   ·rename_i n hn
    simp only [Go.part, Sem.run_bind, run_isAgg hagg, Result.andThen_ok, if_true, run_sizeOf hn, Sem.run_pure] at h1 h2
    injection h1 with h1; injection h2 with h2; rw [← h1, ← h2]
   ·cases hp
  ·rename_i hagg
   obtain ⟨x, hx, hv⟩ := hc.get hp
   have hx' : c[off]? = some x := by simpa using hx
   simp only [Go.part, Sem.run_bind, run_isAgg hagg, Result.andThen_ok, Bool.false_eq_true, if_false, hx', Sem.run_pure] at h1 h2
   injection h1 with h1; injection h2 with h2; rw [← h1, ← h2]
  ·cases hp
 rw [hz, key w' default z x hz hx]
theorem run_eqFs (d : Nat) (eq : TypeId → V → V → Option Bool) (heq : ∀ t x y x' y' b, eq t x y = some b → VR μ x x' → VR μ y y' → ∀ w : World, (Op.equalIn d t x' y').run P w = .ok b w)
  {xs ys : List V} {cx cy : Array Value} (hx : VRL μ xs cx.toList) (hy : VRL μ ys cy.toList) : ∀ (fs : List Field) (b : Bool), eqFs P eq xs ys fs = some b → ∀ w : World, (Op.eqFields d cx cy fs).run P w = .ok b w
 | [], b, h, w => by simp [eqFs] at h; subst h; simp [Op.eqFields]
 | f :: fs, b, h, w => by
  simp only [eqFs] at h
  simp only [Op.eqFields]
  split at h
  ·rename_i hn
   simp only [hn, ne_eq, not_true_eq_false, if_false]
   exact run_eqFs d eq heq hx hy fs b h w
  ·rename_i hn
   simp only [ne_eq, hn, not_false_eq_true, if_true]
   split at h
   ·rename_i a c ha hc
    obtain ⟨x', hx', vx⟩ := run_part_both hx ha
    obtain ⟨y', hy', vy⟩ := run_part_both hy hc
    simp only [Sem.run_bind, hx' w, hy' w, Result.andThen_ok]
    split at h
    ·rename_i he
     rw [heq _ _ _ _ _ _ he vx vy w]
     simp only [Result.andThen_ok, Bool.not_true, Bool.false_eq_true, if_false]
     exact run_eqFs d eq heq hx hy fs b h w
    ·rename_i he
     rw [heq _ _ _ _ _ _ he vx vy w]
     injection h with h; subst h
     simp only [Result.andThen_ok, Bool.not_false, if_true, Sem.run_pure]
    ·cases h
   ·cases h
theorem run_eqIn : ∀ (d : Nat) (t : TypeId) (x y : V) (x' y' : Value) (b : Bool), eqIn P d t x y = some b → VR μ x x' → VR μ y y' → ∀ (D : Nat) (w : World), d ≤ D → (Op.equalIn D t x' y').run P w = .ok b w
 | 0, t, x, y, x', y', b, h, _, _, _, _, _ => by simp [eqIn] at h
 | d + 1, t, x, y, x', y', b, h, hx, hy, D, w, hD => by
  obtain ⟨D, rfl⟩ : ∃ D', D = D' + 1 := ⟨D - 1, by omega⟩
  simp only [eqIn] at h
  split at h
  ·rename_i hu
   split at h
   ·injection h with h; subst h
    rw [hx.bool_of, hy.bool_of]
    simp [Op.equalIn, run_underlying hu]
   ·cases h
  ·rename_i hu
   split at h
   ·split at h
    ·rename_i hk
     injection h with h; subst h; subst hk
     rw [hx.int_of, hy.int_of]
     simp [Op.equalIn, run_underlying hu]
    ·cases h
   ·cases h
  ·rename_i hu
   split at h
   ·injection h with h; subst h
    simp only [VR] at hx hy
    obtain ⟨bx, rfl, rfl⟩ := hx
    obtain ⟨bY, rfl, rfl⟩ := hy
    rw [run_equalIn_string w D t bx bY hu, toList_data, toList_data]
   ·cases h
  ·rename_i e hu
   split at h
   ·rename_i bp
    injection h with h; subst h
    simp only [VR] at hx; subst hx
    cases bp with
    | none => simp only [VR] at hy; subst hy; simp [Op.equalIn, run_underlying hu]
    | some bp => simp only [VR] at hy; obtain ⟨a', rfl, _⟩ := hy; simp [Op.equalIn, run_underlying hu]
   ·injection h with h; subst h
    simp only [VR] at hx hy
    obtain ⟨a', rfl, _⟩ := hx
    subst hy
    simp [Op.equalIn, run_underlying hu]
   ·cases h
  ·rename_i e hu
   split at h
   ·rename_i l1 c1 e1 bp l2 c2 e2
    injection h with h; subst h
    simp only [VR] at hx; obtain ⟨_, _, rfl⟩ := hx
    cases bp with
    | none => simp only [VR] at hy; obtain ⟨_, _, rfl⟩ := hy; simp [Op.equalIn, run_underlying hu]
    | some bp => simp only [VR] at hy; obtain ⟨a', c', rfl, _⟩ := hy; simp [Op.equalIn, run_underlying hu]
   ·injection h with h; subst h
    simp only [VR] at hx hy
    obtain ⟨a', c', rfl, _⟩ := hx
    obtain ⟨_, _, rfl⟩ := hy
    simp [Op.equalIn, run_underlying hu]
   ·cases h
  ·rename_i e1 e2 hu
   split at h
   ·rename_i bp
    injection h with h; subst h
    simp only [VR] at hx; subst hx
    cases bp with
    | none => simp only [VR] at hy; subst hy; simp [Op.equalIn, run_underlying hu]
    | some bp => simp only [VR] at hy; obtain ⟨a', _, rfl⟩ := hy; simp [Op.equalIn, run_underlying hu]
   ·injection h with h; subst h
    simp only [VR] at hx hy
    obtain ⟨a', _, rfl⟩ := hx
    subst hy
    simp [Op.equalIn, run_underlying hu]
   ·cases h
  ·rename_i e1 e2 e3 hu
   split at h
   ·injection h with h; subst h
    simp only [VR] at hx hy; subst hx; subst hy
    simp [Op.equalIn, run_underlying hu]
   ·injection h with h; subst h
    simp only [VR] at hx hy; subst hx; obtain ⟨c, rfl, _⟩ := hy
    simp [Op.equalIn, run_underlying hu]
   ·injection h with h; subst h
    simp only [VR] at hx hy; subst hy; obtain ⟨c, rfl, _⟩ := hx
    simp [Op.equalIn, run_underlying hu]
   ·cases h
  ·rename_i fs hu
   split at h
   ·split at h
    ·cases h
    ·rename_i hp
     simp only [VR] at hx hy
     obtain ⟨cx, rfl, hcx⟩ := hx
     obtain ⟨cy, rfl, hcy⟩ := hy
     have hf : P.underlying t = some (.struct (P.fieldsOf t)) := by simp [Program.fieldsOf, hu]
     have hfe : P.fieldsOf t = fs := by simp [Program.fieldsOf, hu]
     rw [run_equalIn_struct w D t cx cy hf (by simpa using hp), hfe]
     exact run_eqFs D (eqIn P d) (fun t x y x' y' b he h1 h2 w => run_eqIn d t x y x' y' b he h1 h2 D w (by omega)) hcx hcy fs.toList b h w
   ·cases h
  ·cases h
theorem run_eqOp {t : TypeId} {x y : V} {x' y' : Value} {b : Bool} (hs : eqOp P t x y = some b) (hx : VR μ x x') (hy : VR μ y y') (ox oy : Operand) (op : BinOp) :
  (eqGuard op t ox oy x' y').run P w = .ok () w ∧ (Op.equal t x' y').run P w = .ok b w := by
 unfold eqOp at hs
 split at hs
 ·rename_i l
  split at hs
  ·cases hs
  ·rename_i hg
   have hg' : P.eqGuardType P.depth t = false := by simpa using hg
   refine ⟨?_, run_eqIn 40 t _ _ _ _ b hs hx hy Op.maxDepth w (by decide)⟩
   simp only [VR] at hx
   obtain ⟨c, rfl, _⟩ := hx
   cases y' with
   | agg c' => exact run_eqGuard_agg w op t ox oy c c' hg'
   | _ => cases op <;> simp [eqGuard]
 ·cases hs
 ·rename_i hna hnn
  refine ⟨?_, run_eqIn 40 t _ _ _ _ b hs hx hy Op.maxDepth w (by decide)⟩
  have h1 : ∀ c, x' ≠ .agg c := fun c e => by
   subst e
   cases x with
   | agg l => exact hna l rfl
   | ptr a => cases a <;> simp [VR] at hx
   | slice a _ _ _ => cases a <;> simp [VR] at hx
   | map a => cases a <;> simp [VR] at hx
   | _ => simp [VR] at hx
  have h2 : x' ≠ .nilIface := fun e => by
   subst e
   cases x with
   | nilif => exact hnn rfl
   | ptr a => cases a <;> simp [VR] at hx
   | slice a _ _ _ => cases a <;> simp [VR] at hx
   | map a => cases a <;> simp [VR] at hx
   | _ => simp [VR] at hx
  cases op <;> simp only [eqGuard, Bool.not_true, Bool.not_false, Bool.false_eq_true, if_false, if_true, Sem.run_bind, Sem.run_pure, Result.andThen_ok] <;>
   (cases x' <;> first | rfl | (exact absurd rfl (h1 _)) | (exact absurd rfl h2))
theorem run_binOp {op : BinOp} {t : TypeId} {x y : V} {x' y' : Value} {v : V} (hs : Dg.binOp P op t x y = some v) (hx : VR μ x x') (hy : VR μ y y') (ox oy : Operand) :
  ∃ z, (do eqGuard op t ox oy x' y'; Go.binOp op t x' y' : Sem Value).run P w = .ok z w ∧ VR μ v z := by
 have hplain : ∀ {u u' : Value}, (∀ c, u ≠ .agg c) → u ≠ .nilIface → (eqGuard op t ox oy u u').run P w = .ok () w := by
  intro u u' h1 h2
  cases op <;> simp only [eqGuard, Bool.not_true, Bool.not_false, Bool.false_eq_true, if_false, if_true, Sem.run_bind, Sem.run_pure, Result.andThen_ok] <;>
   (cases u <;> first | rfl | (exact absurd rfl (h1 _)) | (exact absurd rfl h2))
 unfold Dg.binOp at hs
 split at hs
 ·rename_i k a k' b
  rw [hx.int_of, hy.int_of]
  simp only [Sem.run_bind, hplain (u := .int k a) (by simp) (by simp), Result.andThen_ok]
  split at hs
  ·exact run_shiftOp t (.inl rfl) hs
  ·exact run_shiftOp t (.inr rfl) hs
  ·split at hs
   ·rename_i hk; subst hk; exact run_intOp t hs
   ·cases hs
 ·rename_i a b
  simp only [VR] at hx hy
  obtain ⟨bx, rfl, rfl⟩ := hx
  obtain ⟨bY, rfl, rfl⟩ := hy
  simp only [Sem.run_bind, hplain (u := .string bx) (by simp) (by simp), Result.andThen_ok]
  exact run_strOp t hs
 ·rename_i hni hns
  have hcase : ∀ b, eqOp P t x y = some b → (Go.binOp .eql t x' y').run P w = .ok (.bool b) w ∧ (Go.binOp .neq t x' y').run P w = .ok (.bool (!b)) w := by
   intro b hb
   obtain ⟨_, he⟩ := run_eqOp (w := w) hb hx hy ox oy op
   have hd : (∀ k a k' c, ¬ (x' = .int k a ∧ y' = .int k' c)) ∧ (∀ a c, ¬ (x' = .string a ∧ y' = .string c)) ∧ (∀ k a, x' ≠ .float k a) ∧ (∀ k a c, x' ≠ .complex k a c) := by
    refine ⟨?_, ?_, ?_, ?_⟩
    ·rintro k a k' c ⟨rfl, rfl⟩
     have e1 : x = .int k a := by
      cases x with
      | int k a => simp only [VR] at hx; injection hx with h1 h2; rw [h1, h2]
      | ptr a => cases a <;> simp [VR] at hx
      | slice a _ _ _ => cases a <;> simp [VR] at hx
      | map a => cases a <;> simp [VR] at hx
      | _ => simp [VR] at hx
     have e2 : y = .int k' c := by
      cases y with
      | int k a => simp only [VR] at hy; injection hy with h1 h2; rw [h1, h2]
      | ptr a => cases a <;> simp [VR] at hy
      | slice a _ _ _ => cases a <;> simp [VR] at hy
      | map a => cases a <;> simp [VR] at hy
      | _ => simp [VR] at hy
     exact hni k a k' c e1 e2
    ·rintro a c ⟨rfl, rfl⟩
     have e1 : ∃ s, x = .str s := by
      cases x with
      | str s => exact ⟨s, rfl⟩
      | ptr a => cases a <;> simp [VR] at hx
      | slice a _ _ _ => cases a <;> simp [VR] at hx
      | map a => cases a <;> simp [VR] at hx
      | _ => simp [VR] at hx
     have e2 : ∃ s, y = .str s := by
      cases y with
      | str s => exact ⟨s, rfl⟩
      | ptr a => cases a <;> simp [VR] at hy
      | slice a _ _ _ => cases a <;> simp [VR] at hy
      | map a => cases a <;> simp [VR] at hy
      | _ => simp [VR] at hy
     obtain ⟨s1, e1⟩ := e1
     obtain ⟨s2, e2⟩ := e2
     exact hns s1 s2 e1 e2
    ·rintro k a rfl
     cases x with
     | ptr a => cases a <;> simp [VR] at hx
     | slice a _ _ _ => cases a <;> simp [VR] at hx
     | map a => cases a <;> simp [VR] at hx
     | _ => simp [VR] at hx
    ·rintro k a c rfl
     cases x with
     | ptr a => cases a <;> simp [VR] at hx
     | slice a _ _ _ => cases a <;> simp [VR] at hx
     | map a => cases a <;> simp [VR] at hx
     | _ => simp [VR] at hx
   obtain ⟨d1, d2, d3, d4⟩ := hd
   constructor
   ·have : Go.binOp .eql t x' y' = (do pure (.bool (← Op.equal t x' y'))) := by
     unfold Go.binOp
     split <;> first | rfl | (exact absurd rfl (d3 _ _)) | (exact absurd rfl (d4 _ _ _)) | (exact absurd ⟨rfl, rfl⟩ (d1 _ _ _ _)) | (exact absurd ⟨rfl, rfl⟩ (d2 _ _)) | simp_all
    rw [this]
    simp [he]
   ·have : Go.binOp .neq t x' y' = (do pure (.bool (!(← Op.equal t x' y')))) := by
     unfold Go.binOp
     split <;> first | rfl | (exact absurd rfl (d3 _ _)) | (exact absurd rfl (d4 _ _ _)) | (exact absurd ⟨rfl, rfl⟩ (d1 _ _ _ _)) | (exact absurd ⟨rfl, rfl⟩ (d2 _ _)) | simp_all
    rw [this]
    simp [he]
  split at hs
  ·cases hb : eqOp P t x y with
   | none => rw [hb] at hs; cases hs
   | some b =>
    rw [hb] at hs; simp at hs; subst hs
    refine ⟨.bool b, ?_, VR.mk_bool _⟩
    simp only [Sem.run_bind, (run_eqOp (w := w) hb hx hy ox oy .eql).1, Result.andThen_ok, (hcase b hb).1]
  ·cases hb : eqOp P t x y with
   | none => rw [hb] at hs; cases hs
   | some b =>
    rw [hb] at hs; simp at hs; subst hs
    refine ⟨.bool (!b), ?_, VR.mk_bool _⟩
    simp only [Sem.run_bind, (run_eqOp (w := w) hb hx hy ox oy .neq).1, Result.andThen_ok, (hcase b hb).2]
  ·cases hs
theorem run_unOp {op : UnOp} {x : V} {x' : Value} {v : V} (hs : Dg.unOp op x = some v) (hx : VR μ x x') : ∃ z, (Op.unary op x').run P w = .ok z w ∧ VR μ v z := by
 unfold Dg.unOp at hs
 split at hs
 ·rename_i k n
  injection hs with hs; subst hs
  rw [hx.int_of]
  exact ⟨_, by simp only [Op.unary, Op.intArith, Sem.run_pure], VR.mk_int _ _⟩
 ·rename_i k n
  injection hs with hs; subst hs
  rw [hx.int_of]
  exact ⟨_, by simp only [Op.unary, Op.intBits, Sem.run_pure], VR.mk_int _ _⟩
 ·rename_i b
  injection hs with hs; subst hs
  rw [hx.bool_of]
  exact ⟨_, by simp only [Op.unary, Sem.run_pure], VR.mk_bool _⟩
 ·cases hs
end
end Go.Proofs.YtkhjmgchlbnkjaaDoor.Dg
