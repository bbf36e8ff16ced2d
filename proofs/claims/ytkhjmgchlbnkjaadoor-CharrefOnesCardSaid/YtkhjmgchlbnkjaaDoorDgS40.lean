import Derived.Test.YtkhjmgchlbnkjaaDoorDgS39
set_option linter.unusedVariables false
set_option linter.unusedSimpArgs false
namespace Go.Proofs.YtkhjmgchlbnkjaaDoor.Dg
open Go Go.RowKit
section
variable {P : Program} {W : World}
theorem lookup_at {t kt et : TypeId} {m k : Operand} {env : List V} {h : H} {i : Nat} {es : List (V × V)} {kv z v : V} {r : Option V} (hm : ev env m = some (.map (some i))) (hk : ev env k = some kv) (hu : P.underlying t = some (.map kt et)) (ho : keyOk P kt kv = true) (hz : zeroOf P et = some z)
  (hg : h.get i = some (.map es)) (hf : findKey kv es = some r) (hv : r.getD z = v) : opStep P W (.lookup t m k false) env h = .val v h := by
 subst hv
 cases r <;> simp [opStep, hm, hk, lookup, hu, ho, hz, mapFind, hg, hf, Res.pure]
theorem update_at {t kt et : TypeId} {m k x : Operand} {env : List V} {h : H} {i : Nat} {es es' : List (V × V)} {kv v : V} (hm : ev env m = some (.map (some i))) (hk : ev env k = some kv) (hx : ev env x = some v) (hu : P.underlying t = some (.map kt et)) (ho : keyOk P kt kv = true)
  (hg : h.get i = some (.map es)) (hs : setKey kv v es = some es') : opStep P W (.mapUpdate t m k x) env h = .val .undef (h.put i (some (.map es'))) := by
 simp [opStep, hm, hk, hx, mapUpdate, hu, ho, hg, hs, Res.unit]
end
def KU (es : List (V × V)) : Prop := ∀ e ∈ es, ∃ b : UInt8, e.1 = .int .u8 (b.toNat : Int)
theorem KU.nil : KU [] := fun e h => by cases h
theorem keyEq_u8 (a b : UInt8) : keyEq (.int .u8 (a.toNat : Int)) (.int .u8 (b.toNat : Int)) = some (a == b) := by
 simp only [keyEq, if_true]
 congr 1
 by_cases e : a = b
 ·subst e; simp
 ·rw [beq_false_of_ne e]
  have : (a.toNat : Int) ≠ (b.toNat : Int) := fun h => e (UInt8.toNat_inj.1 (by omega))
  simpa using this
theorem set_find : ∀ {es : List (V × V)} (hk : KU es) (a : UInt8) (v : V), ∃ es', setKey (.int .u8 (a.toNat : Int)) v es = some es' ∧ KU es' ∧ ∀ b : UInt8, findKey (.int .u8 (b.toNat : Int)) es' = if b = a then some (some v) else findKey (.int .u8 (b.toNat : Int)) es
 | [], hk, a, v => by
  refine ⟨_, rfl, fun e h => ?_, fun b => ?_⟩
  ·simp at h; subst h; exact ⟨a, rfl⟩
  ·simp only [findKey, keyEq_u8]
   by_cases e : b = a
   ·subst e; simp
   ·simp [beq_false_of_ne e, e, findKey]
 | (k', v') :: es, hk, a, v => by
  obtain ⟨c, hc⟩ := hk (k', v') (by simp)
  simp only at hc
  subst hc
  obtain ⟨es', h1, h2, h3⟩ := set_find (es := es) (fun e h => hk e (by simp [h])) a v
  simp only [setKey, keyEq_u8]
  by_cases e : a = c
  ·subst e
   simp only [beq_self_eq_true]
   refine ⟨_, rfl, fun e h => ?_, fun b => ?_⟩
   ·rcases List.mem_cons.1 h with rfl | h
    ·exact ⟨a, rfl⟩
    ·exact hk e (by simp [h])
   ·simp only [findKey, keyEq_u8]
    by_cases e : b = a
    ·subst e; simp
    ·simp [beq_false_of_ne e, e]
  ·rw [beq_false_of_ne e]
   simp only [h1]
   refine ⟨_, rfl, fun e h => ?_, fun b => ?_⟩
   ·rcases List.mem_cons.1 h with rfl | h
    ·exact ⟨c, rfl⟩
    ·exact h2 e h
   ·simp only [findKey, keyEq_u8]
    by_cases e2 : b = c
    ·subst e2
     have : ¬ b = a := fun h => e h.symm
     simp [this]
    ·rw [beq_false_of_ne e2]
     simp only [h3]
abbrev Wrd := List UInt8
def tlW (c : Int) (w : Wrd) : List V := match w with | [] => [.int .i64 c] | _ => []
def tyW (tr tn : TypeId) (w : Wrd) : TypeId := match w with | [] => tr | _ => tn
theorem tlW_ne {c : Int} {w : Wrd} (h : w ≠ []) : tlW c w = [] := by cases w <;> simp_all [tlW]
theorem tyW_ne {tr tn : TypeId} {w : Wrd} (h : w ≠ []) : tyW tr tn w = tn := by cases w <;> simp_all [tyW]
structure Tri (tr tn : TypeId) (n0 : Nat) (h : H) (D B : Wrd → Bool) (R : Wrd → Int) (p : Wrd → Nat) (m : Wrd → Option Nat) (c : Int) : Prop where
 root : D [] = true
 out : ∀ w, D w = false → B w = false ∧ R w = 0
 pre : ∀ w b, D (w ++ [b]) = true → D w = true
 node : ∀ w, D w = true → n0 ≤ p w ∧ p w < h.nx ∧ h.get (p w) = some (.cells (.map (m w) :: .bool (B w) :: .int .i64 (R w) :: tlW c w) (tyW tr tn w))
 maps : ∀ w i, D w = true → m w = some i → n0 ≤ i ∧ i < h.nx ∧ ∃ es, h.get i = some (.map es) ∧ KU es ∧ ∀ b : UInt8, findKey (.int .u8 (b.toNat : Int)) es = some (if D (w ++ [b]) = true then some (.ptr (some (.new (p (w ++ [b])) 0))) else none)
 leaf : ∀ w, D w = true → m w = none → ∀ b, D (w ++ [b]) = false
 pin : ∀ v w, D v = true → D w = true → p v = p w → v = w
 min : ∀ v w i, D v = true → D w = true → m v = some i → m w = some i → v = w
section
variable {tr tn : TypeId} {n0 : Nat} {h h1 h2 : H} {D B : Wrd → Bool} {R : Wrd → Int} {p : Wrd → Nat} {m : Wrd → Option Nat} {c : Int}
theorem Tri.hx (t : Tri tr tn n0 h D B R p m c) (k : HX h h1) : Tri tr tn n0 h1 D B R p m c :=
 ⟨t.root, t.out, t.pre, fun w hw => ⟨(t.node w hw).1, k.le (t.node w hw).2.1, k.keep (t.node w hw).2.1 (t.node w hw).2.2⟩,
  fun w i hw hi => by
  obtain ⟨h0, h1, es, h2, h3⟩ := t.maps w i hw hi
  exact ⟨h0, k.le h1, es, k.keep h1 h2, h3⟩, t.leaf, t.pin, t.min⟩
theorem Tri.start {q : Nat} (a : HA h h1 q (.cells [.map none, .bool false, .int .i64 0, .int .i64 0] tr)) : Tri tr tn h.nx h1 (fun w => w == []) (fun _ => false) (fun _ => 0) (fun _ => q) (fun _ => none) 0 := by
 refine ⟨rfl, fun w _ => ⟨rfl, rfl⟩, fun w b e => ?_, fun w hw => ?_, fun w i _ e => (nomatch e), fun w hw _ b => ?_, fun v w hv hw _ => ?_, fun v w i _ _ e => (nomatch e)⟩
 ·simp at e
 ·have e : w = [] := by simpa using hw
  subst e
  exact ⟨Nat.le_of_eq a.eq.symm, a.lt, a.get⟩
 ·simp
 ·have e1 : v = [] := by simpa using hv
  have e2 : w = [] := by simpa using hw
  rw [e1, e2]
theorem Tri.setMap (t : Tri tr tn n0 h D B R p m c) {w : Wrd} (hw : D w = true) (hm : m w = none) {i : Nat} (a : HA h h1 i (.map [])) (b : HP h1 h2 (p w) (some (.cells (.map (some i) :: .bool (B w) :: .int .i64 (R w) :: tlW c w) (tyW tr tn w)))) :
  Tri tr tn n0 h2 D B R p (fun v => if v = w then some i else m v) c := by
 have hlt : ∀ j, j < h.nx → j < h2.nx := fun j hj => by rw [b.nx, a.nx]; omega
 have hi : i = h.nx := a.eq
 have hn0 : n0 ≤ h.nx := by have := t.node w hw; omega
 refine ⟨t.root, t.out, t.pre, fun v hv => ?_, fun v j hv hj => ?_, fun v hv hj b => ?_, t.pin, fun v u j hv hu e1 e2 => ?_⟩
 ·by_cases e : v = w
  ·subst e
   refine ⟨(t.node v hv).1, hlt _ (t.node v hv).2.1, ?_⟩
   simp only [if_true]
   exact b.get
  ·simp only [if_neg e]
   have hp : p v ≠ p w := fun e2 => e (t.pin v w hv hw e2)
   exact ⟨(t.node v hv).1, hlt _ (t.node v hv).2.1, b.keep hp (a.keep (t.node v hv).2.1 (t.node v hv).2.2)⟩
 ·by_cases e : v = w
  ·subst e
   simp only [if_true] at hj
   injection hj with hj
   subst hj
   have hlw := (t.node v hv).2.1
   refine ⟨by omega, by rw [b.nx]; exact a.lt, [], b.keep (by omega) a.get, KU.nil, fun b => ?_⟩
   rw [t.leaf v hv hm b]
   rfl
  ·simp only [if_neg e] at hj
   obtain ⟨h0, h1, es, h2, h3⟩ := t.maps v j hv hj
   have hne : j ≠ p w := fun e2 => by rw [e2, (t.node w hw).2.2] at h2; cases h2
   exact ⟨h0, hlt _ h1, es, b.keep hne (a.keep h1 h2), h3⟩
 ·by_cases e : v = w
  ·subst e
   simp only [if_true] at hj
   cases hj
  ·simp only [if_neg e] at hj
   exact t.leaf v hv hj b
 ·by_cases ev : v = w
  ·by_cases eu : u = w
   ·rw [ev, eu]
   ·subst ev
    simp only [if_true] at e1
    simp only [if_neg eu] at e2
    injection e1 with e1
    have := (t.maps u j hu e2).2.1
    omega
  ·by_cases eu : u = w
   ·subst eu
    simp only [if_true] at e2
    simp only [if_neg ev] at e1
    injection e2 with e2
    have := (t.maps v j hv e1).2.1
    omega
   ·simp only [if_neg ev] at e1
    simp only [if_neg eu] at e2
    exact t.min v u j hv hu e1 e2
theorem snoc_ne {w : Wrd} {b : UInt8} : w ++ [b] ≠ [] := by simp
theorem snoc_inj {v w : Wrd} {a b : UInt8} (h : v ++ [a] = w ++ [b]) : v = w ∧ a = b := by
 have := List.append_inj' h rfl
 exact ⟨this.1, by simpa using this.2⟩
theorem Tri.newKid (t : Tri tr tn n0 h D B R p m c) {w : Wrd} (hw : D w = true) {i : Nat} (hm : m w = some i) {b : UInt8} (hn : D (w ++ [b]) = false) {q : Nat} {es es' : List (V × V)} (ge : h.get i = some (.map es)) (ku : KU es')
  (fe : ∀ x : UInt8, findKey (.int .u8 (x.toNat : Int)) es' = if x = b then some (some (.ptr (some (.new q 0)))) else findKey (.int .u8 (x.toNat : Int)) es)
  (a : HA h h1 q (.cells [.map none, .bool false, .int .i64 0] tn)) (u : HP h1 h2 i (some (.map es'))) :
  Tri tr tn n0 h2 (fun v => D v || v == w ++ [b]) B R (fun v => if v = w ++ [b] then q else p v) (fun v => if v = w ++ [b] then none else m v) c := by
 have hq : q = h.nx := a.eq
 have hlt : ∀ j, j < h.nx → j < h2.nx := fun j hj => by rw [u.nx, a.nx]; omega
 have hn0 : n0 ≤ h.nx := by have := t.node w hw; omega
 obtain ⟨hi0, hi1, es0, hi2, _, hi4⟩ := t.maps w i hw hm
 rw [ge] at hi2
 injection hi2 with hi2
 injection hi2 with hi2
 subst hi2
 have dne : ∀ v, D v = true → v ≠ w ++ [b] := fun v hv e => by rw [e, hn] at hv; cases hv
 have kid : ∀ v x, (D v || v == w ++ [b]) = true → D (v ++ [x]) = true → v ≠ w ++ [b] := fun v x _ hx => dne v (t.pre v x hx)
 refine ⟨by simp [t.root], fun v hv => ?_, fun v x hv => ?_, fun v hv => ?_, fun v j hv hj => ?_, fun v hv hj x => ?_, fun v v' hv hv' e => ?_, fun v v' j hv hv' e1 e2 => ?_⟩
 ·simp only [Bool.or_eq_false_iff] at hv
  exact t.out v hv.1
 ·simp only [Bool.or_eq_true, beq_iff_eq] at hv ⊢
  rcases hv with hv | hv
  ·exact .inl (t.pre v x hv)
  ·have := (snoc_inj hv).1
   subst this
   exact .inl hw
 ·by_cases e : v = w ++ [b]
  ·subst e
   simp only [if_true]
   refine ⟨by omega, by rw [u.nx]; exact a.lt, ?_⟩
   rw [tlW_ne snoc_ne, tyW_ne snoc_ne, (t.out _ hn).1, (t.out _ hn).2]
   exact u.keep (by omega) a.get
  ·have hv' : D v = true := by simpa [e] using hv
   simp only [if_neg e]
   have hne : p v ≠ i := fun e2 => by
    have := (t.node v hv').2.2
    rw [e2, ge] at this; cases this
   exact ⟨(t.node v hv').1, hlt _ (t.node v hv').2.1, u.keep hne (a.keep (t.node v hv').2.1 (t.node v hv').2.2)⟩
 ·by_cases e : v = w ++ [b]
  ·simp only [if_pos e] at hj
   cases hj
  ·have hv' : D v = true := by simpa [e] using hv
   simp only [if_neg e] at hj
   by_cases e2 : v = w
   ·subst e2
    rw [hm] at hj
    injection hj with hj
    subst hj
    refine ⟨hi0, hlt _ hi1, es', u.get, ku, fun x => ?_⟩
    rw [fe x]
    by_cases ex : x = b
    ·subst ex; simp
    ·rw [if_neg ex, hi4 x]
     have e3 : ¬ (v ++ [x] = v ++ [b]) := fun h => ex (snoc_inj h).2
     have e4 : (v ++ [x] == v ++ [b]) = false := beq_false_of_ne e3
     rw [e4, Bool.or_false]
     simp only [if_neg e3]
   ·obtain ⟨h0, h1', es0, h2', h3, h4⟩ := t.maps v j hv' hj
    have hne : j ≠ i := fun e5 => e2 (t.min v w i hv' hw (by rw [hj, e5]) hm)
    refine ⟨h0, hlt _ h1', es0, u.keep hne (a.keep h1' h2'), h3, fun x => ?_⟩
    rw [h4 x]
    have e3 : ¬ (v ++ [x] = w ++ [b]) := fun h => e2 (snoc_inj h).1
    have e4 : (v ++ [x] == w ++ [b]) = false := beq_false_of_ne e3
    rw [e4, Bool.or_false]
    simp only [if_neg e3]
 ·have e3 : v ++ [x] = w ++ [b] → False := fun e => by
   have := (snoc_inj e).1
   subst this
   have e2 : v ≠ v ++ [b] := dne v hw
   simp only [if_neg e2] at hj
   rw [hm] at hj; cases hj
  have e4 : (v ++ [x] == w ++ [b]) = false := beq_false_of_ne e3
  rw [e4, Bool.or_false]
  by_cases e : v = w ++ [b]
  ·cases hd : D (v ++ [x])
   ·rfl
   ·exact absurd e (dne v (t.pre v x hd))
  ·have hv' : D v = true := by simpa [e] using hv
   simp only [if_neg e] at hj
   exact t.leaf v hv' hj x
 ·by_cases ev : v = w ++ [b]
  ·by_cases ev' : v' = w ++ [b]
   ·rw [ev, ev']
   ·have hd : D v' = true := by simpa [ev'] using hv'
    simp only [if_pos ev, if_neg ev'] at e
    have := (t.node v' hd).2.1
    omega
  ·have hd0 : D v = true := by simpa [ev] using hv
   by_cases ev' : v' = w ++ [b]
   ·simp only [if_neg ev, if_pos ev'] at e
    have := (t.node v hd0).2.1
    omega
   ·have hd : D v' = true := by simpa [ev'] using hv'
    simp only [if_neg ev, if_neg ev'] at e
    exact t.pin v v' hd0 hd e
 ·by_cases ev : v = w ++ [b]
  ·simp only [if_pos ev] at e1; cases e1
  ·by_cases ev' : v' = w ++ [b]
   ·simp only [if_pos ev'] at e2; cases e2
   ·have hd0 : D v = true := by simpa [ev] using hv
    have hd : D v' = true := by simpa [ev'] using hv'
    simp only [if_neg ev] at e1
    simp only [if_neg ev'] at e2
    exact t.min v v' j hd0 hd e1 e2
theorem Tri.setNode (t : Tri tr tn n0 h D B R p m c) {w : Wrd} (hw : D w = true) {x : Bool} {r : Int} (b : HP h h1 (p w) (some (.cells (.map (m w) :: .bool x :: .int .i64 r :: tlW c w) (tyW tr tn w)))) :
  Tri tr tn n0 h1 D (fun v => if v = w then x else B v) (fun v => if v = w then r else R v) p m c := by
 have dne : ∀ v, D v = false → v ≠ w := fun v hv e => by rw [e, hw] at hv; cases hv
 refine ⟨t.root, fun v hv => ?_, t.pre, fun v hv => ?_, fun v j hv hj => ?_, t.leaf, t.pin, t.min⟩
 ·simp only [if_neg (dne v hv)]; exact t.out v hv
 ·by_cases e : v = w
  ·subst e
   simp only [if_true]
   exact ⟨(t.node v hv).1, by rw [b.nx]; exact (t.node v hv).2.1, b.get⟩
  ·simp only [if_neg e]
   exact ⟨(t.node v hv).1, by rw [b.nx]; exact (t.node v hv).2.1, b.keep (fun e2 => e (t.pin v w hv hw e2)) (t.node v hv).2.2⟩
 ·obtain ⟨h0, h1', es, h2, h3⟩ := t.maps v j hv hj
  have hne : j ≠ p w := fun e2 => by rw [e2, (t.node w hw).2.2] at h2; cases h2
  exact ⟨h0, by rw [b.nx]; exact h1', es, b.keep hne h2, h3⟩
theorem Tri.setCnt (t : Tri tr tn n0 h D B R p m c) {c' : Int} (b : HP h h1 (p []) (some (.cells [.map (m []), .bool (B []), .int .i64 (R []), .int .i64 c'] tr))) : Tri tr tn n0 h1 D B R p m c' := by
 refine ⟨t.root, t.out, t.pre, fun v hv => ?_, fun v j hv hj => ?_, t.leaf, t.pin, t.min⟩
 ·by_cases e : v = []
  ·subst e
   exact ⟨(t.node [] hv).1, by rw [b.nx]; exact (t.node [] hv).2.1, b.get⟩
  ·refine ⟨(t.node v hv).1, by rw [b.nx]; exact (t.node v hv).2.1, ?_⟩
   rw [tlW_ne e]
   have := (t.node v hv).2.2
   rw [tlW_ne e] at this
   exact b.keep (fun e2 => e (t.pin v [] hv t.root e2)) this
 ·obtain ⟨h0, h1', es, h2, h3⟩ := t.maps v j hv hj
  have hne : j ≠ p [] := fun e2 => by rw [e2, (t.node [] t.root).2.2] at h2; cases h2
  exact ⟨h0, by rw [b.nx]; exact h1', es, b.keep hne h2, h3⟩
theorem Tri.congr {B' : Wrd → Bool} {R' : Wrd → Int} (t : Tri tr tn n0 h D B R p m c) (hB : ∀ v, B v = B' v) (hR : ∀ v, R v = R' v) : Tri tr tn n0 h D B' R' p m c := by
 have e1 : B = B' := funext hB
 have e2 : R = R' := funext hR
 subst e1; subst e2
 exact t
theorem Tri.isName {h3 : H} (t : Tri tr tn n0 h D B R p m c) {w : Wrd} (hw : D w = true) (hne : w ≠ []) {r c' : Int} (b1 : HP h h1 (p w) (some (.cells (.map (m w) :: .bool true :: .int .i64 (R w) :: tlW c w) (tyW tr tn w)))) (b2 : HP h1 h2 (p w) (some (.cells (.map (m w) :: .bool true :: .int .i64 r :: tlW c w) (tyW tr tn w))))
  (b3 : HP h2 h3 (p []) (some (.cells [.map (m []), .bool (B []), .int .i64 (R []), .int .i64 c'] tr))) : Tri tr tn n0 h3 D (fun v => if v = w then true else B v) (fun v => if v = w then r else R v) p m c' := by
 have t2 := (t.setNode hw b1).setNode hw b2
 have e1 : ([] : Wrd) ≠ w := Ne.symm hne
 have t3 := t2.setCnt (c' := c') (h1 := h3) (by simpa [e1] using b3)
 exact t3.congr (fun v => by by_cases e : v = w <;> simp [e]) (fun v => by by_cases e : v = w <;> simp [e])
theorem Tri.ne (t : Tri tr tn n0 h D B R p m c) {w : Wrd} (hw : D w = true) {j : Nat} {l : List V} {ty : TypeId} (hj : h.get j = some (.cells l ty)) (hl : ∀ x r, l ≠ .map x :: r) : p w ≠ j := fun e => by
 have := (t.node w hw).2.2
 rw [e, hj] at this
 injection this with this
 injection this with this _
 exact hl _ _ this
theorem Tri.nem (t : Tri tr tn n0 h D B R p m c) {w : Wrd} (hw : D w = true) {i j : Nat} (hm : m w = some i) {l : List V} {ty : TypeId} (hj : h.get j = some (.cells l ty)) : i ≠ j := fun e => by
 obtain ⟨_, _, es, h2, _⟩ := t.maps w i hw hm
 rw [e, hj] at h2; cases h2
end
theorem pre_snoc (w t : Wrd) (b : UInt8) : w.isPrefixOf (t ++ [b]) = (w.isPrefixOf t || w == t ++ [b]) := by
 rw [Bool.eq_iff_iff]
 simp only [Bool.or_eq_true, beq_iff_eq, List.isPrefixOf_iff_prefix, List.prefix_concat_iff]
 exact Or.comm
theorem pre_self (w : Wrd) : w.isPrefixOf w = true := by simp
theorem dom_new {D D0 : Wrd → Bool} {t : Wrd} {b : UInt8} (hD : ∀ w, D w = (D0 w || w.isPrefixOf t)) : ∀ w, (D w || w == t ++ [b]) = (D0 w || w.isPrefixOf (t ++ [b])) := fun w => by
 rw [hD, pre_snoc, Bool.or_assoc]
theorem dom_old {D D0 : Wrd → Bool} {t : Wrd} {b : UInt8} (hD : ∀ w, D w = (D0 w || w.isPrefixOf t)) (hk : D (t ++ [b]) = true) : ∀ w, D w = (D0 w || w.isPrefixOf (t ++ [b])) := fun w => by
 by_cases e : w = t ++ [b]
 ·subst e; rw [hk, pre_self, Bool.or_true]
 ·rw [pre_snoc, beq_false_of_ne e, Bool.or_false, hD]
theorem bv_nomap (s : List UInt8) : ∀ x r, bv s ≠ .map x :: r := fun x r e => by
 cases s with
 | nil => cases e
 | cons b s => unfold bv at e; simp at e
theorem take_bt {s : List UInt8} {i : Int} (h0 : 0 ≤ i) (h : i < (s.length : Int)) : s.take (i + 1).toNat = s.take i.toNat ++ [s.getD i.toNat 0] := by
 have hl : i.toNat < s.length := by omega
 rw [toNat_succ h0, List.take_succ_eq_append_getElem hl, List.getD_eq_getElem?_getD, List.getElem?_eq_getElem hl]
 rfl
theorem drop_bt {s : List UInt8} {i : Int} (h0 : 0 ≤ i) (h : i < (s.length : Int)) : s.drop i.toNat = s.getD i.toNat 0 :: s.drop (i + 1).toNat := by
 have hl : i.toNat < s.length := by omega
 rw [toNat_succ h0, List.drop_eq_getElem_cons hl, List.getD_eq_getElem?_getD, List.getElem?_eq_getElem hl]
 rfl
end Go.Proofs.YtkhjmgchlbnkjaaDoor.Dg
