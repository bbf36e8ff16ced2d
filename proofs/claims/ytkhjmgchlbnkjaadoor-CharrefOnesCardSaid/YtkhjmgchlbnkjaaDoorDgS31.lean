import Derived.Test.YtkhjmgchlbnkjaaDoorDgS30
import Derived.Lib.IndexMore
import Derived.Lib.IndexBytes
import Derived.HandedShaped
set_option linter.unusedVariables false
set_option linter.unusedSimpArgs false
namespace Go.Proofs.YtkhjmgchlbnkjaaDoor.Dg
open Go Go.RowKit
section
variable {P : Program} {W : World}
theorem Prims.addC {prim : FuncId → Option (List V → H → Option (V × H))} (hp : Prims P W prim) {f : FuncId} {p : List V → Option V} (hbody : ∃ fn c, P.funcs[f]? = some fn ∧ fn.body = some c)
    (hs : ∀ w, Below W.heap.size W w → ∀ args v, p args = some v → ∀ μ (args' : Array Value), VRL μ args args'.toList → Calls P f args' w fun e w' => ∃ x, e = .returned x ∧ VR μ v x ∧ w' = w) : Prims P W (setPrim prim f p) := by
  intro w0 hb0
  have h0 := hp w0 hb0
  refine ⟨fun g q hg args h v h' hq μ w args' hr ha => ?_, fun g q hg => ?_, fun g q hg args h v h' hq => ?_⟩
  · unfold setPrim at hg
    split at hg
    · rename_i hgf
      subst hgf
      injection hg with hg; subst hg
      simp only at hq
      split at hq
      · rename_i u hu
        injection hq with hq; injection hq with e1 e2; subst e1; subst e2
        have hbw : Below W.heap.size W w := hb0.trans (hr.below.mono hb0.size)
        have := hs w hbw args u hu μ args' ha
        rw [Wd_wide]
        refine callsIn_wide.2 (this.mono ?_)
        rintro e w' ⟨x, rfl, hv, rfl⟩
        exact ⟨μ, x, rfl, hv, Go1.refl hr⟩
      · cases hq
    · exact h0.ok g q hg args h v h' hq μ w args' hr ha
  · unfold setPrim at hg
    split at hg
    · rename_i hgf; subst hgf; exact hbody
    · exact h0.body g q hg
  · unfold setPrim at hg
    split at hg
    · injection hg with hg; subst hg
      simp only at hq
      split at hq
      · injection hq with hq; injection hq with e1 e2; subst e2; exact Nat.le_refl _
      · cases hq
    · exact h0.nx g q hg args h v h' hq
def SomeInt (W : World) (g : Nat) : Prop := ∃ m, W.cell? ⟨g, 0, none⟩ = some (.int .i64 m)
theorem SomeInt.below {W w : World} {g : Nat} (h : SomeInt W g) (hb : Below W.heap.size W w) : SomeInt w g := by
  obtain ⟨m, hm⟩ := h
  refine ⟨m, ?_⟩
  have hlt : g < W.heap.size := by
    rcases Nat.lt_or_ge g W.heap.size with h1 | h1
    · exact h1
    · have : W.cell? ⟨g, 0, none⟩ = none := by
        simp [World.cell?, Array.getElem?_eq_none h1]
      rw [this] at hm; cases hm
  have e := hb.block g hlt
  rw [← hm]
  simp only [World.cell?, e]
theorem VRL.strs2 {μ : Mu} {s t : List UInt8} {args : Array Value} (h : VRL μ [.str s, .str t] args.toList) : ∃ a b : ByteArray, args = #[.string a, .string b] ∧ a.data.toList = s ∧ b.data.toList = t := by
  simp only [VRL] at h
  obtain ⟨x, xs, e1, h1, y, ys, e2, h2, e3⟩ := h
  subst e3; subst e2
  simp only [VR] at h1 h2
  obtain ⟨a, rfl, rfl⟩ := h1
  obtain ⟨b, rfl, rfl⟩ := h2
  exact ⟨a, b, by rw [← Array.toList_inj]; exact e1, rfl, rfl⟩
end
theorem contains_cons (b : UInt8) (l sub : List UInt8) : Lib.contains (b :: l) sub = (sub.isPrefixOf (b :: l) || Lib.contains l sub) := by
  unfold Lib.contains
  rw [Lib.index]
  have := Lib.index_ge l sub
  by_cases h1 : sub.isPrefixOf (b :: l) = true
  · simp [h1]
  · simp only [h1, Bool.false_eq_true, if_false]
    by_cases h2 : Lib.index l sub = -1
    · simp [h2]
    · have : (Lib.index l sub == -1) = false := beq_false_of_ne h2
      simp only [this, Bool.false_eq_true, if_false, Bool.false_or]
      have h3 : 0 ≤ Lib.index l sub := by omega
      have h4 : 0 ≤ Lib.index l sub + 1 := by omega
      simp [h3, h4]
theorem contains_skip {r : List UInt8} : ∀ (cur X : List UInt8), 32 ∉ cur → Lib.contains (cur ++ X) (32 :: r) = Lib.contains X (32 :: r)
  | [], X, _ => rfl
  | c :: cur, X, h => by
    have hc : (32 : UInt8) ≠ c := fun e => h (by simp [e])
    rw [List.cons_append, contains_cons, contains_skip cur X (fun hm => h (by simp [hm]))]
    have : (32 :: r).isPrefixOf (c :: (cur ++ X)) = false := by simp [List.isPrefixOf, hc]
    rw [this]; rfl
theorem prefix_word : ∀ (name cur cs : List UInt8), 32 ∉ name → 32 ∉ cur → (name ++ [32]).isPrefixOf (cur ++ 32 :: cs) = (name == cur)
  | [], [], cs, _, _ => by simp [List.isPrefixOf]
  | [], c :: cur, cs, _, h => by
    have hc : (32 : UInt8) ≠ c := fun e => h (by simp [e])
    have : (([] : List UInt8) == c :: cur) = false := rfl
    rw [this]; simp [List.isPrefixOf, hc]
  | a :: name, [], cs, h, _ => by
    have hc : a ≠ 32 := fun e => h (by simp [e])
    have : (a :: name == ([] : List UInt8)) = false := rfl
    rw [this]; simp [List.isPrefixOf, hc]
  | a :: name, c :: cur, cs, h1, h2 => by
    have := prefix_word name cur cs (fun hm => h1 (by simp [hm])) (fun hm => h2 (by simp [hm]))
    simp only [List.cons_append, List.isPrefixOf, this]
    rfl
theorem in_words {name : List UInt8} (hne : name ≠ []) (hb : 32 ∉ name) : ∀ (T cur : List UInt8), 32 ∉ cur → (T.getLast? = some 32 ∨ (T = [] ∧ cur = [])) → Lib.contains (32 :: (cur ++ T)) (32 :: (name ++ [32])) = (wordsGo T cur).any (name == ·)
  | [], cur, h, hT => by
    rcases hT with hT | ⟨_, rfl⟩
    · cases hT
    · rw [List.append_nil, contains_cons]
      cases name with
      | nil => exact absurd rfl hne
      | cons a name => simp [List.isPrefixOf, Lib.contains, Lib.index, wordsGo]
  | c :: cs, cur, h, hT => by
    have hT' : cs.getLast? = some 32 ∨ cs = [] ∧ c = 32 := by
      rcases hT with hT | ⟨e, _⟩
      · cases cs with
        | nil => simp at hT; exact .inr ⟨rfl, hT⟩
        | cons d cs => left; simpa [List.getLast?_cons_cons] using hT
      · cases e
    by_cases hc : c = 32
    · subst hc
      have ih := in_words hne hb cs [] (by simp) (hT'.imp id fun h => ⟨h.1, rfl⟩)
      rw [contains_cons, contains_skip cur _ h]
      rw [List.nil_append] at ih
      rw [ih]
      have : (32 :: (name ++ [32])).isPrefixOf (32 :: (cur ++ 32 :: cs)) = (name == cur) := by
        simp only [List.isPrefixOf, beq_self_eq_true, Bool.true_and]; exact prefix_word name cur cs hb h
      rw [this]
      conv => rhs; unfold wordsGo
      simp only [beq_self_eq_true, if_true]
      cases cur with
      | nil =>
        have : (name == ([] : List UInt8)) = false := beq_false_of_ne hne
        simp [this]
      | cons a cur => simp
    · have hc' : (c == 32) = false := beq_false_of_ne hc
      have hT'' : cs.getLast? = some 32 := by
        rcases hT' with h | ⟨_, h⟩
        · exact h
        · exact absurd h hc
      have ih := in_words hne hb cs (cur ++ [c]) (by simp [h, Ne.symm hc]) (.inl hT'')
      rw [List.append_assoc] at ih
      conv => rhs; unfold wordsGo
      rw [hc']
      exact ih
theorem words_nb : ∀ (T cur : List UInt8), 32 ∉ cur → ∀ w ∈ wordsGo T cur, 32 ∉ w ∧ w ≠ []
  | [], cur, h, w, hw => by
    unfold wordsGo at hw
    split at hw
    · cases hw
    · rename_i he
      simp at hw; subst hw
      exact ⟨h, fun e => by subst e; simp at he⟩
  | c :: cs, cur, h, w, hw => by
    unfold wordsGo at hw
    split at hw
    · split at hw
      · exact words_nb cs [] (by simp) w hw
      · rename_i he
        rcases List.mem_cons.1 hw with e | hw
        · subst e; exact ⟨h, fun e => by subst e; simp at he⟩
        · exact words_nb cs [] (by simp) w hw
    · rename_i hc
      have hc : c ≠ 32 := by simpa using hc
      exact words_nb cs (cur ++ [c]) (by simp [h, Ne.symm hc]) w hw
def tableOk (t : List UInt8) : Bool := t.head? == some 32 && t.getLast? == some 32
theorem among_in {s t : List UInt8} (ht : tableOk t = true) : (!(s == []) && (!Lib.contains s [32] && Lib.contains t (32 :: (s ++ [32])))) = among s t := by
  simp only [tableOk, Bool.and_eq_true, beq_iff_eq] at ht
  obtain ⟨h1, h2⟩ := ht
  cases t with
  | nil => cases h1
  | cons c T =>
    simp only [List.head?_cons, Option.some.injEq] at h1
    subst h1
    have hT : T.getLast? = some 32 ∨ (T = [] ∧ ([] : List UInt8) = []) := by
      cases T with
      | nil => exact .inr ⟨rfl, rfl⟩
      | cons d T => left; simpa [List.getLast?_cons_cons] using h2
    have hw : words (32 :: T) = words T := by unfold words; conv => lhs; unfold wordsGo
                                              simp
    have hc : ∀ l : List UInt8, Lib.contains l [32] = l.contains 32 := by
      intro l
      induction l with
      | nil => rfl
      | cons a l ih => rw [contains_cons, ih, List.contains_cons]; simp [List.isPrefixOf]
    have nomem : 32 ∈ s ∨ s = [] → among s (32 :: T) = false := by
      intro h
      unfold among
      rw [List.any_eq_false]
      intro w hw he
      have hw := words_nb _ _ (by simp) w hw
      have e := eq_of_beq he
      subst e
      rcases h with h | h
      · exact hw.1 h
      · exact hw.2 h
    by_cases hs : s = []
    · subst hs; rw [nomem (.inr rfl)]; rfl
    · have : (s == []) = false := beq_false_of_ne hs
      rw [this, hc]
      by_cases hb : 32 ∈ s
      · have : s.contains 32 = true := List.contains_iff_mem.2 hb
        rw [this, nomem (.inl hb)]; rfl
      · have : s.contains 32 = false := by
          cases h : s.contains 32 with
          | false => rfl
          | true => exact absurd (List.contains_iff_mem.1 h) hb
        rw [this]
        have := in_words hs hb T [] (by simp) hT
        rw [List.nil_append] at this
        rw [this]
        unfold among; rw [hw]; rfl
theorem among_mem {s t : List UInt8} (h : among s t = true) : s ∈ words t := by
  unfold among at h
  rw [List.any_eq_true] at h
  obtain ⟨w, hw, e⟩ := h
  have := eq_of_beq e
  subst this; exact hw
theorem among_all {s t : List UInt8} {p : List UInt8 → Bool} (h : among s t = true) (ha : (words t).all p = true) : p s = true := List.all_eq_true.1 ha s (among_mem h)
theorem among_congr {s t u : List UInt8} (h : words t = words u) : among s t = among s u := by unfold among; rw [h]
end Go.Proofs.YtkhjmgchlbnkjaaDoor.Dg
