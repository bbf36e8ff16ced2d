/-
  No cell of these rows narrows 'for every input' (looked for: loops, veiled, ifaces, maps, wideKeys, modest, calm, conditions, laid).
  DERIVED. THE GIVEN ROWS OF THIS SEAT. 5 by the template 'for every input the law returns true; each argument reads behind the call as it read before'; 0 by the template 'total and deterministic' (their statements: YtoofmfakmbdffaaTotals.lean).
  GIVEN WITH THE SEED: the statements are not yours to turn. If you find one false, say at which input.
  Laid BY PROGRAM, IN A SANDBOX (cutbox-rows.mjs): the forced cells as the released guide's own fill.sh prints them over the translation e10c7e8c9e3304c6… (all of the seat's roots in one cut). By AI agents, Wed Nov 11 2026. No macro, syntax, notation, axiom, sorry.
-/
import Derived.Test.YtoofmfakmbdffaaChecked
import GoSem.Claim
import GoSem.ClaimJoined
import GoSem.ClaimMapViews
import Derived.JoinedTies
import Derived.KernelRfl
namespace Go.Proofs.Ytoofmfakmbdffaa
/- THE CELL 'sum', in the pinned program and in every row, IS THE sha256 OF THE DUMP (.gsa) THAT YtoofmfakmbdffaaProg.lean LOADS. Nothing in Lean hashes anything: it is a label: what it is worth is what the hold of that sum in a sandbox is worth. -/
noncomputable def Try.pinned : Pinned := { name := "ytoofmfakmbdffaa", sum := "e10c7e8c9e3304c68f381435751e1ecab7325ba6681eb12dafd5808f739f58f7", checked := Try.checked }
namespace Rows
def none {H : Type} : Left H := { results := [], args := [] }

/-- 'taffraillaw07.VocabNames': WHATEVER THE INPUT: true; the input reads as it did. -/
def vocabNamesSpec : ChangeSpec := { name := "vocabNames", fn := fun _ => fun
  | [d] => { results := [.lit (.bool true)], args := [d] }
  | _ => none }
def vocabNamesRow : OpenClaim := { program := "ytoofmfakmbdffaa", sum := "e10c7e8c9e3304c68f381435751e1ecab7325ba6681eb12dafd5808f739f58f7", func := "taffrail/taffraillaw07.VocabNames", spec := "vocabNames", inPlace := ["internal/bytealg.IndexByteString", "internal/bytealg.IndexString"], named := ["internal/bytealg.MaxLen"], apart := false }
def VocabNamesSaid : Prop := vocabNamesRow.holds Try.pinned (OpenSpec.ofChange vocabNamesSpec)

/-- ITS FALSE NEIGHBOUR: 'it returns false'. Refute it at one input. -/
def vocabNamesWrong : ChangeSpec := { name := "vocabNames", fn := fun _ => fun
  | [d] => { results := [.lit (.bool false)], args := [d] }
  | _ => none }
def VocabNamesWrongFalsely : Prop := vocabNamesRow.holds Try.pinned (OpenSpec.ofChange vocabNamesWrong)

/-- 'taffraillaw07.VocabSpecial': WHATEVER THE INPUT: true; the input reads as it did. -/
def vocabSpecialSpec : ChangeSpec := { name := "vocabSpecial", fn := fun _ => fun
  | [d1, d2] => { results := [.lit (.bool true)], args := [d1, d2] }
  | _ => none }
def vocabSpecialRow : OpenClaim := { program := "ytoofmfakmbdffaa", sum := "e10c7e8c9e3304c68f381435751e1ecab7325ba6681eb12dafd5808f739f58f7", func := "taffrail/taffraillaw07.VocabSpecial", spec := "vocabSpecial", inPlace := ["internal/bytealg.IndexByteString", "internal/bytealg.IndexString"], named := ["internal/bytealg.MaxLen"], apart := false }
def VocabSpecialSaid : Prop := vocabSpecialRow.holds Try.pinned (OpenSpec.ofChange vocabSpecialSpec)

/-- ITS FALSE NEIGHBOUR: 'it returns false'. Refute it at one input. -/
def vocabSpecialWrong : ChangeSpec := { name := "vocabSpecial", fn := fun _ => fun
  | [d1, d2] => { results := [.lit (.bool false)], args := [d1, d2] }
  | _ => none }
def VocabSpecialWrongFalsely : Prop := vocabSpecialRow.holds Try.pinned (OpenSpec.ofChange vocabSpecialWrong)

/-- 'taffraillaw07.VocabLower': WHATEVER THE INPUT: true; the input reads as it did. -/
def vocabLowerSpec : ChangeSpec := { name := "vocabLower", fn := fun _ => fun
  | [d] => { results := [.lit (.bool true)], args := [d] }
  | _ => none }
def vocabLowerRow : OpenClaim := { program := "ytoofmfakmbdffaa", sum := "e10c7e8c9e3304c68f381435751e1ecab7325ba6681eb12dafd5808f739f58f7", func := "taffrail/taffraillaw07.VocabLower", spec := "vocabLower", inPlace := ["internal/bytealg.IndexByteString", "internal/bytealg.IndexString"], named := ["internal/bytealg.MaxLen"], apart := false }
def VocabLowerSaid : Prop := vocabLowerRow.holds Try.pinned (OpenSpec.ofChange vocabLowerSpec)

/-- ITS FALSE NEIGHBOUR: 'it returns false'. Refute it at one input. -/
def vocabLowerWrong : ChangeSpec := { name := "vocabLower", fn := fun _ => fun
  | [d] => { results := [.lit (.bool false)], args := [d] }
  | _ => none }
def VocabLowerWrongFalsely : Prop := vocabLowerRow.holds Try.pinned (OpenSpec.ofChange vocabLowerWrong)

/-- 'taffraillaw07.VocabBlank': WHATEVER THE INPUT: true; the input reads as it did. -/
def vocabBlankSpec : ChangeSpec := { name := "vocabBlank", fn := fun _ => fun
  | [d] => { results := [.lit (.bool true)], args := [d] }
  | _ => none }
def vocabBlankRow : OpenClaim := { program := "ytoofmfakmbdffaa", sum := "e10c7e8c9e3304c68f381435751e1ecab7325ba6681eb12dafd5808f739f58f7", func := "taffrail/taffraillaw07.VocabBlank", spec := "vocabBlank", inPlace := ["internal/bytealg.IndexByteString", "internal/bytealg.IndexString"], named := ["internal/bytealg.MaxLen"], apart := false }
def VocabBlankSaid : Prop := vocabBlankRow.holds Try.pinned (OpenSpec.ofChange vocabBlankSpec)

/-- ITS FALSE NEIGHBOUR: 'it returns false'. Refute it at one input. -/
def vocabBlankWrong : ChangeSpec := { name := "vocabBlank", fn := fun _ => fun
  | [d] => { results := [.lit (.bool false)], args := [d] }
  | _ => none }
def VocabBlankWrongFalsely : Prop := vocabBlankRow.holds Try.pinned (OpenSpec.ofChange vocabBlankWrong)

/-- 'taffraillaw07.VocabApart': WHATEVER THE INPUT: true; the input reads as it did. -/
def vocabApartSpec : ChangeSpec := { name := "vocabApart", fn := fun _ => fun
  | [d] => { results := [.lit (.bool true)], args := [d] }
  | _ => none }
def vocabApartRow : OpenClaim := { program := "ytoofmfakmbdffaa", sum := "e10c7e8c9e3304c68f381435751e1ecab7325ba6681eb12dafd5808f739f58f7", func := "taffrail/taffraillaw07.VocabApart", spec := "vocabApart", inPlace := ["internal/bytealg.IndexByteString", "internal/bytealg.IndexString"], named := ["internal/bytealg.MaxLen"], apart := false }
def VocabApartSaid : Prop := vocabApartRow.holds Try.pinned (OpenSpec.ofChange vocabApartSpec)

/-- ITS FALSE NEIGHBOUR: 'it returns false'. Refute it at one input. -/
def vocabApartWrong : ChangeSpec := { name := "vocabApart", fn := fun _ => fun
  | [d] => { results := [.lit (.bool false)], args := [d] }
  | _ => none }
def VocabApartWrongFalsely : Prop := vocabApartRow.holds Try.pinned (OpenSpec.ofChange vocabApartWrong)

/- THE SECOND FORM. 'bulk': how many values and letters a reading holds, each counted each time it is reached (what is shared counts as often as it is met; a slice's spare places count too). A statement '..UptoSaid' is the law's where the arguments, and the package variables that the reading takes, are together of bulk at most 1048576: NARROWER than '..Said'. Prove '..Said' where nothing that the law and all that it calls make is longer than what came in: it says more and counts as full. Else prove '..UptoSaid'. A law counts once. -/
mutual
def uptoBulk {H : Type} : DataW H → Nat
  | .lit (.string bytes) => bytes.length + 1
  | .lit _ => 1
  | .nil => 1
  | .ptr d => uptoBulk d + 1
  | .slice elems spare => uptoBulkAll elems + uptoBulkAll spare + 1
  | .agg parts => uptoBulkAll parts + 1
  | .iface _ d => uptoBulk d + 1
  | .map entries => uptoBulkEntries entries + 1
  | .held _ => 1
def uptoBulkAll {H : Type} : List (DataW H) → Nat
  | [] => 0
  | d :: r => uptoBulk d + uptoBulkAll r
def uptoBulkEntries {H : Type} : List (Lit × DataW H) → Nat
  | [] => 0
  | x :: r => uptoBulkEntry x + uptoBulkEntries r
def uptoBulkEntry {H : Type} : Lit × DataW H → Nat
  | (.string bytes, d) => bytes.length + uptoBulk d + 1
  | (_, d) => uptoBulk d + 1
 end
def uptoSmall : (H : Type) → List (DataW H) → Bool := fun _ ds => decide (uptoBulkAll ds ≤ 1048576)
def OpenSpec.upto (s : _root_.Go.ChangeSpec) : _root_.Go.OpenSpec := { _root_.Go.OpenSpec.ofChange s with cond := some uptoSmall }

/-- 'taffraillaw07.VocabNames', WHERE WHAT IT READS IS OF BULK AT MOST 1048576: true; the input reads as it did. -/
def vocabNamesUptoRow : OpenClaim := { program := "ytoofmfakmbdffaa", sum := "e10c7e8c9e3304c68f381435751e1ecab7325ba6681eb12dafd5808f739f58f7", func := "taffrail/taffraillaw07.VocabNames", spec := "vocabNames", inPlace := ["internal/bytealg.IndexByteString", "internal/bytealg.IndexString"], named := ["internal/bytealg.MaxLen"], apart := false, narrowed := true }
def VocabNamesUptoSaid : Prop := vocabNamesUptoRow.holds Try.pinned (OpenSpec.upto vocabNamesSpec)

/-- 'taffraillaw07.VocabSpecial', WHERE WHAT IT READS IS OF BULK AT MOST 1048576: true; the input reads as it did. -/
def vocabSpecialUptoRow : OpenClaim := { program := "ytoofmfakmbdffaa", sum := "e10c7e8c9e3304c68f381435751e1ecab7325ba6681eb12dafd5808f739f58f7", func := "taffrail/taffraillaw07.VocabSpecial", spec := "vocabSpecial", inPlace := ["internal/bytealg.IndexByteString", "internal/bytealg.IndexString"], named := ["internal/bytealg.MaxLen"], apart := false, narrowed := true }
def VocabSpecialUptoSaid : Prop := vocabSpecialUptoRow.holds Try.pinned (OpenSpec.upto vocabSpecialSpec)

/-- 'taffraillaw07.VocabLower', WHERE WHAT IT READS IS OF BULK AT MOST 1048576: true; the input reads as it did. -/
def vocabLowerUptoRow : OpenClaim := { program := "ytoofmfakmbdffaa", sum := "e10c7e8c9e3304c68f381435751e1ecab7325ba6681eb12dafd5808f739f58f7", func := "taffrail/taffraillaw07.VocabLower", spec := "vocabLower", inPlace := ["internal/bytealg.IndexByteString", "internal/bytealg.IndexString"], named := ["internal/bytealg.MaxLen"], apart := false, narrowed := true }
def VocabLowerUptoSaid : Prop := vocabLowerUptoRow.holds Try.pinned (OpenSpec.upto vocabLowerSpec)

/-- 'taffraillaw07.VocabBlank', WHERE WHAT IT READS IS OF BULK AT MOST 1048576: true; the input reads as it did. -/
def vocabBlankUptoRow : OpenClaim := { program := "ytoofmfakmbdffaa", sum := "e10c7e8c9e3304c68f381435751e1ecab7325ba6681eb12dafd5808f739f58f7", func := "taffrail/taffraillaw07.VocabBlank", spec := "vocabBlank", inPlace := ["internal/bytealg.IndexByteString", "internal/bytealg.IndexString"], named := ["internal/bytealg.MaxLen"], apart := false, narrowed := true }
def VocabBlankUptoSaid : Prop := vocabBlankUptoRow.holds Try.pinned (OpenSpec.upto vocabBlankSpec)

/-- 'taffraillaw07.VocabApart', WHERE WHAT IT READS IS OF BULK AT MOST 1048576: true; the input reads as it did. -/
def vocabApartUptoRow : OpenClaim := { program := "ytoofmfakmbdffaa", sum := "e10c7e8c9e3304c68f381435751e1ecab7325ba6681eb12dafd5808f739f58f7", func := "taffrail/taffraillaw07.VocabApart", spec := "vocabApart", inPlace := ["internal/bytealg.IndexByteString", "internal/bytealg.IndexString"], named := ["internal/bytealg.MaxLen"], apart := false, narrowed := true }
def VocabApartUptoSaid : Prop := vocabApartUptoRow.holds Try.pinned (OpenSpec.upto vocabApartSpec)

end Rows
end Go.Proofs.Ytoofmfakmbdffaa
