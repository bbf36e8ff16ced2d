/-
  No cell of these rows narrows 'for every input' (looked for: loops, veiled, ifaces, maps, wideKeys, modest, calm, conditions, laid).
  DERIVED. THE GIVEN ROWS OF THIS SEAT. 4 by the template 'for every input the law returns true; each argument reads behind the call as it read before'; 0 by the template 'total and deterministic' (their statements: YtjfnoiknjeklhaaTotals.lean).
  GIVEN WITH THE SEED: the statements are not yours to turn. If you find one false, say at which input.
  Laid BY PROGRAM, IN A SANDBOX (cutbox-rows.mjs): the forced cells as the released guide's own fill.sh prints them over the translation 9e4e14adbc36666b… (all of the seat's roots in one cut). By AI agents, Wed Nov 11 2026. No macro, syntax, notation, axiom, sorry.
-/
import Derived.Test.YtjfnoiknjeklhaaChecked
import GoSem.Claim
import GoSem.ClaimJoined
import GoSem.ClaimMapViews
import Derived.JoinedTies
import Derived.KernelRfl
namespace Go.Proofs.Ytjfnoiknjeklhaa
/- THE CELL 'sum', in the pinned program and in every row, IS THE sha256 OF THE DUMP (.gsa) THAT YtjfnoiknjeklhaaProg.lean LOADS. Nothing in Lean hashes anything: it is a label: what it is worth is what the hold of that sum in a sandbox is worth. -/
noncomputable def Try.pinned : Pinned := { name := "ytjfnoiknjeklhaa", sum := "9e4e14adbc36666b17ee8505759da42d96bde278780a51059cf91188a2eb92c0", checked := Try.checked }
namespace Rows
def none {H : Type} : Left H := { results := [], args := [] }

/-- 'taffraillaw20.ForeignNames': WHATEVER THE INPUT: true; the input reads as it did. -/
def foreignNamesSpec : ChangeSpec := { name := "foreignNames", fn := fun _ => fun
  | [d1, d2] => { results := [.lit (.bool true)], args := [d1, d2] }
  | _ => none }
def foreignNamesRow : OpenClaim := { program := "ytjfnoiknjeklhaa", sum := "9e4e14adbc36666b17ee8505759da42d96bde278780a51059cf91188a2eb92c0", func := "taffrail/taffraillaw20.ForeignNames", spec := "foreignNames", inPlace := ["internal/bytealg.IndexByteString", "internal/bytealg.IndexString"], unfollowed := true, recurses := true, named := ["internal/bytealg.MaxLen"], apart := false }
def ForeignNamesSaid : Prop := foreignNamesRow.holds Try.pinned (OpenSpec.ofChange foreignNamesSpec)

/-- ITS FALSE NEIGHBOUR: 'it returns false'. Refute it at one input. -/
def foreignNamesWrong : ChangeSpec := { name := "foreignNames", fn := fun _ => fun
  | [d1, d2] => { results := [.lit (.bool false)], args := [d1, d2] }
  | _ => none }
def ForeignNamesWrongFalsely : Prop := foreignNamesRow.holds Try.pinned (OpenSpec.ofChange foreignNamesWrong)

/-- 'taffraillaw20.ForeignAttrs': WHATEVER THE INPUT: true; the input reads as it did. -/
def foreignAttrsSpec : ChangeSpec := { name := "foreignAttrs", fn := fun _ => fun
  | [d1, d2] => { results := [.lit (.bool true)], args := [d1, d2] }
  | _ => none }
def foreignAttrsRow : OpenClaim := { program := "ytjfnoiknjeklhaa", sum := "9e4e14adbc36666b17ee8505759da42d96bde278780a51059cf91188a2eb92c0", func := "taffrail/taffraillaw20.ForeignAttrs", spec := "foreignAttrs", inPlace := ["internal/bytealg.IndexByteString", "internal/bytealg.IndexString"], unfollowed := true, recurses := true, named := ["internal/bytealg.MaxLen"], apart := false }
def ForeignAttrsSaid : Prop := foreignAttrsRow.holds Try.pinned (OpenSpec.ofChange foreignAttrsSpec)

/-- ITS FALSE NEIGHBOUR: 'it returns false'. Refute it at one input. -/
def foreignAttrsWrong : ChangeSpec := { name := "foreignAttrs", fn := fun _ => fun
  | [d1, d2] => { results := [.lit (.bool false)], args := [d1, d2] }
  | _ => none }
def ForeignAttrsWrongFalsely : Prop := foreignAttrsRow.holds Try.pinned (OpenSpec.ofChange foreignAttrsWrong)

/-- 'taffraillaw20.ForeignRules': WHATEVER THE INPUT: true; the input reads as it did. -/
def foreignRulesSpec : ChangeSpec := { name := "foreignRules", fn := fun _ => fun
  | [d1, d2, d3] => { results := [.lit (.bool true)], args := [d1, d2, d3] }
  | _ => none }
def foreignRulesRow : OpenClaim := { program := "ytjfnoiknjeklhaa", sum := "9e4e14adbc36666b17ee8505759da42d96bde278780a51059cf91188a2eb92c0", func := "taffrail/taffraillaw20.ForeignRules", spec := "foreignRules", inPlace := ["internal/bytealg.IndexByteString", "internal/bytealg.IndexString"], unfollowed := true, recurses := true, named := ["internal/bytealg.MaxLen"], apart := false }
def ForeignRulesSaid : Prop := foreignRulesRow.holds Try.pinned (OpenSpec.ofChange foreignRulesSpec)

/-- ITS FALSE NEIGHBOUR: 'it returns false'. Refute it at one input. -/
def foreignRulesWrong : ChangeSpec := { name := "foreignRules", fn := fun _ => fun
  | [d1, d2, d3] => { results := [.lit (.bool false)], args := [d1, d2, d3] }
  | _ => none }
def ForeignRulesWrongFalsely : Prop := foreignRulesRow.holds Try.pinned (OpenSpec.ofChange foreignRulesWrong)

/-- 'taffraillaw20.ForeignLower': WHATEVER THE INPUT: true; the input reads as it did. -/
def foreignLowerSpec : ChangeSpec := { name := "foreignLower", fn := fun _ => fun
  | [d1, d2] => { results := [.lit (.bool true)], args := [d1, d2] }
  | _ => none }
def foreignLowerRow : OpenClaim := { program := "ytjfnoiknjeklhaa", sum := "9e4e14adbc36666b17ee8505759da42d96bde278780a51059cf91188a2eb92c0", func := "taffrail/taffraillaw20.ForeignLower", spec := "foreignLower", inPlace := ["internal/bytealg.IndexByteString", "internal/bytealg.IndexString"], unfollowed := true, recurses := true, named := ["internal/bytealg.MaxLen"], apart := false }
def ForeignLowerSaid : Prop := foreignLowerRow.holds Try.pinned (OpenSpec.ofChange foreignLowerSpec)

/-- ITS FALSE NEIGHBOUR: 'it returns false'. Refute it at one input. -/
def foreignLowerWrong : ChangeSpec := { name := "foreignLower", fn := fun _ => fun
  | [d1, d2] => { results := [.lit (.bool false)], args := [d1, d2] }
  | _ => none }
def ForeignLowerWrongFalsely : Prop := foreignLowerRow.holds Try.pinned (OpenSpec.ofChange foreignLowerWrong)

/- THE SECOND FORM. 'bulk': how many values and letters a reading holds, each counted each time it is reached (what is shared counts as often as it is met; a slice's spare places count too). A statement '..UptoSaid' is the law's where the arguments, and the package variables that the reading takes, are together of bulk at most 1048576: NARROWER than '..Said'. Prove '..Said' where nothing that the law and all that it calls make is longer than what came in: it says more and counts as full. Else prove '..UptoSaid'. A law counts once. -/
mutual
def uptoBulk {H : Type} : DataW H → Nat
  | .lit (.string bytes) => bytes.length + 1
  | .lit _ => 1
  | .nil => 1
  | .ptr d => uptoBulk d + 1
  | .slice elems spare => uptoBulkAll elems + uptoBulkAll spare + 1
  | .agg parts => uptoBulkAll parts + 1
  | .iface _ d => uptoBulk d + 1
  | .map entries => uptoBulkEntries entries + 1
  | .held _ => 1
def uptoBulkAll {H : Type} : List (DataW H) → Nat
  | [] => 0
  | d :: r => uptoBulk d + uptoBulkAll r
def uptoBulkEntries {H : Type} : List (Lit × DataW H) → Nat
  | [] => 0
  | x :: r => uptoBulkEntry x + uptoBulkEntries r
def uptoBulkEntry {H : Type} : Lit × DataW H → Nat
  | (.string bytes, d) => bytes.length + uptoBulk d + 1
  | (_, d) => uptoBulk d + 1
 end
def uptoSmall : (H : Type) → List (DataW H) → Bool := fun _ ds => decide (uptoBulkAll ds ≤ 1048576)
def OpenSpec.upto (s : _root_.Go.ChangeSpec) : _root_.Go.OpenSpec := { _root_.Go.OpenSpec.ofChange s with cond := some uptoSmall }

/-- 'taffraillaw20.ForeignNames', WHERE WHAT IT READS IS OF BULK AT MOST 1048576: true; the input reads as it did. -/
def foreignNamesUptoRow : OpenClaim := { program := "ytjfnoiknjeklhaa", sum := "9e4e14adbc36666b17ee8505759da42d96bde278780a51059cf91188a2eb92c0", func := "taffrail/taffraillaw20.ForeignNames", spec := "foreignNames", inPlace := ["internal/bytealg.IndexByteString", "internal/bytealg.IndexString"], unfollowed := true, recurses := true, named := ["internal/bytealg.MaxLen"], apart := false, narrowed := true }
def ForeignNamesUptoSaid : Prop := foreignNamesUptoRow.holds Try.pinned (OpenSpec.upto foreignNamesSpec)

/-- 'taffraillaw20.ForeignAttrs', WHERE WHAT IT READS IS OF BULK AT MOST 1048576: true; the input reads as it did. -/
def foreignAttrsUptoRow : OpenClaim := { program := "ytjfnoiknjeklhaa", sum := "9e4e14adbc36666b17ee8505759da42d96bde278780a51059cf91188a2eb92c0", func := "taffrail/taffraillaw20.ForeignAttrs", spec := "foreignAttrs", inPlace := ["internal/bytealg.IndexByteString", "internal/bytealg.IndexString"], unfollowed := true, recurses := true, named := ["internal/bytealg.MaxLen"], apart := false, narrowed := true }
def ForeignAttrsUptoSaid : Prop := foreignAttrsUptoRow.holds Try.pinned (OpenSpec.upto foreignAttrsSpec)

/-- 'taffraillaw20.ForeignRules', WHERE WHAT IT READS IS OF BULK AT MOST 1048576: true; the input reads as it did. -/
def foreignRulesUptoRow : OpenClaim := { program := "ytjfnoiknjeklhaa", sum := "9e4e14adbc36666b17ee8505759da42d96bde278780a51059cf91188a2eb92c0", func := "taffrail/taffraillaw20.ForeignRules", spec := "foreignRules", inPlace := ["internal/bytealg.IndexByteString", "internal/bytealg.IndexString"], unfollowed := true, recurses := true, named := ["internal/bytealg.MaxLen"], apart := false, narrowed := true }
def ForeignRulesUptoSaid : Prop := foreignRulesUptoRow.holds Try.pinned (OpenSpec.upto foreignRulesSpec)

/-- 'taffraillaw20.ForeignLower', WHERE WHAT IT READS IS OF BULK AT MOST 1048576: true; the input reads as it did. -/
def foreignLowerUptoRow : OpenClaim := { program := "ytjfnoiknjeklhaa", sum := "9e4e14adbc36666b17ee8505759da42d96bde278780a51059cf91188a2eb92c0", func := "taffrail/taffraillaw20.ForeignLower", spec := "foreignLower", inPlace := ["internal/bytealg.IndexByteString", "internal/bytealg.IndexString"], unfollowed := true, recurses := true, named := ["internal/bytealg.MaxLen"], apart := false, narrowed := true }
def ForeignLowerUptoSaid : Prop := foreignLowerUptoRow.holds Try.pinned (OpenSpec.upto foreignLowerSpec)

end Rows
end Go.Proofs.Ytjfnoiknjeklhaa
