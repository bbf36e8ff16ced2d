/-
  NARROWER THAN 'FOR EVERY INPUT', by the rows' own cells (each row's printed sentence says how): CharrefNumbers: laid · CharrefOnes: laid · CharrefNumeric: laid · CharrefTexts: laid · CharrefBack: laid.
  DERIVED. THE GIVEN ROWS OF THIS SEAT. 5 by the template 'for every input the law returns true; each argument reads behind the call as it read before'; 0 by the template 'total and deterministic' (their statements: YtkhjmgchlbnkjaaDoorTotals.lean).
  GIVEN WITH THE SEED: the statements are not yours to turn. If you find one false, say at which input.
  Laid BY PROGRAM, IN A SANDBOX (cutbox-rows.mjs): the forced cells as the released guide's own fill.sh prints them over the translation 8a995c8950a8f81b… (all of the seat's roots in one cut). By AI agents, Wed Nov 11 2026. No macro, syntax, notation, axiom, sorry.
-/
import Derived.Test.YtkhjmgchlbnkjaaDoorChecked
import GoSem.PinnedTables
import GoSem.Claim
import GoSem.ClaimJoined
import GoSem.ClaimMapViews
import Derived.JoinedTies
import Derived.KernelRfl
namespace Go.Proofs.YtkhjmgchlbnkjaaDoor
/- THE CELL 'sum', in the pinned program and in every row, IS THE sha256 OF THE DUMP (.gsa) THAT YtkhjmgchlbnkjaaDoorProg.lean LOADS. Nothing in Lean hashes anything: it is a label: what it is worth is what the hold of that sum in a sandbox is worth. -/
noncomputable def Tryd.pinned : Pinned := { name := "ytkhjmgchlbnkjaadoor", sum := "8a995c8950a8f81bf12d35744fce9dc4e201e6225531e89cbed0071b37f80004", checked := Tryd.checked }
namespace Rows
def none {H : Type} : Left H := { results := [], args := [] }

/- WHAT THE LISTED PACKAGE-LEVEL VARIABLES READ AS WHEN THE CALL BEGINS. Each datum BY PROGRAM (the guide's laid-datum.mjs) off the statement by which the dump's own 'gosem.cut.vars' lays the variable. In a bare row this is a premise. The card (YtkhjmgchlbnkjaaDoorCards.lean) ties it to the program's text. -/
def laid_unicode_utf8_acceptRanges {H : Type} : DataW H := .agg [.agg [.lit (.int .u8 128), .lit (.int .u8 191)], .agg [.lit (.int .u8 160), .lit (.int .u8 191)], .agg [.lit (.int .u8 128), .lit (.int .u8 159)], .agg [.lit (.int .u8 144), .lit (.int .u8 191)], .agg [.lit (.int .u8 128), .lit (.int .u8 143)], .agg [.lit (.int .u8 0), .lit (.int .u8 0)], .agg [.lit (.int .u8 0), .lit (.int .u8 0)], .agg [.lit (.int .u8 0), .lit (.int .u8 0)], .agg [.lit (.int .u8 0), .lit (.int .u8 0)], .agg [.lit (.int .u8 0), .lit (.int .u8 0)], .agg [.lit (.int .u8 0), .lit (.int .u8 0)], .agg [.lit (.int .u8 0), .lit (.int .u8 0)], .agg [.lit (.int .u8 0), .lit (.int .u8 0)], .agg [.lit (.int .u8 0), .lit (.int .u8 0)], .agg [.lit (.int .u8 0), .lit (.int .u8 0)], .agg [.lit (.int .u8 0), .lit (.int .u8 0)]]
/-- One of Go's own tables, pinned by name: the form's constant. -/
def laid_unicode_utf8_first : DataW Unit := Go.Pinned.utf8First

/-- 'taffraillaw06.CharrefNumbers': WHATEVER THE INPUT: true; the input reads as it did. -/
def charrefNumbersSpec : ChangeSpec := { name := "charrefNumbers", fn := fun _ => fun
  | [d] => { results := [.lit (.bool true)], args := [d] }
  | _ => none }
def charrefNumbersRow : OpenClaim := { program := "ytkhjmgchlbnkjaadoor", sum := "8a995c8950a8f81bf12d35744fce9dc4e201e6225531e89cbed0071b37f80004", func := "taffrail/taffraillaw06.CharrefNumbers", spec := "charrefNumbers", inPlace := ["internal/bytealg.IndexByteString", "internal/bytealg.CountString", "internal/bytealg.IndexString", "internal/abi.NoEscape", "internal/bytealg.MakeNoZero"], named := ["internal/bytealg.MaxLen", "unicode/utf8.first", "unicode/utf8.acceptRanges"], apart := false, laid := [("unicode/utf8.acceptRanges", laid_unicode_utf8_acceptRanges), ("unicode/utf8.first", laid_unicode_utf8_first)] }
def CharrefNumbersSaid : Prop := charrefNumbersRow.holds Tryd.pinned (OpenSpec.ofChange charrefNumbersSpec)

/-- ITS FALSE NEIGHBOUR: 'it returns false'. Refute it at one input. -/
def charrefNumbersWrong : ChangeSpec := { name := "charrefNumbers", fn := fun _ => fun
  | [d] => { results := [.lit (.bool false)], args := [d] }
  | _ => none }
def CharrefNumbersWrongFalsely : Prop := charrefNumbersRow.holds Tryd.pinned (OpenSpec.ofChange charrefNumbersWrong)

/-- 'taffraillaw06.CharrefOnes': WHATEVER THE INPUT: true; the input reads as it did. -/
def charrefOnesSpec : ChangeSpec := { name := "charrefOnes", fn := fun _ => fun
  | [d1, d2] => { results := [.lit (.bool true)], args := [d1, d2] }
  | _ => none }
def charrefOnesRow : OpenClaim := { program := "ytkhjmgchlbnkjaadoor", sum := "8a995c8950a8f81bf12d35744fce9dc4e201e6225531e89cbed0071b37f80004", func := "taffrail/taffraillaw06.CharrefOnes", spec := "charrefOnes", inPlace := ["internal/bytealg.IndexByteString", "internal/bytealg.CountString", "internal/bytealg.IndexString", "internal/abi.NoEscape", "internal/bytealg.MakeNoZero"], named := ["internal/bytealg.MaxLen", "unicode/utf8.first", "unicode/utf8.acceptRanges"], apart := false, laid := [("unicode/utf8.acceptRanges", laid_unicode_utf8_acceptRanges), ("unicode/utf8.first", laid_unicode_utf8_first)] }
def CharrefOnesSaid : Prop := charrefOnesRow.holds Tryd.pinned (OpenSpec.ofChange charrefOnesSpec)

/-- ITS FALSE NEIGHBOUR: 'it returns false'. Refute it at one input. -/
def charrefOnesWrong : ChangeSpec := { name := "charrefOnes", fn := fun _ => fun
  | [d1, d2] => { results := [.lit (.bool false)], args := [d1, d2] }
  | _ => none }
def CharrefOnesWrongFalsely : Prop := charrefOnesRow.holds Tryd.pinned (OpenSpec.ofChange charrefOnesWrong)

/-- 'taffraillaw06.CharrefNumeric': WHATEVER THE INPUT: true; the input reads as it did. -/
def charrefNumericSpec : ChangeSpec := { name := "charrefNumeric", fn := fun _ => fun
  | [d1, d2, d3] => { results := [.lit (.bool true)], args := [d1, d2, d3] }
  | _ => none }
def charrefNumericRow : OpenClaim := { program := "ytkhjmgchlbnkjaadoor", sum := "8a995c8950a8f81bf12d35744fce9dc4e201e6225531e89cbed0071b37f80004", func := "taffrail/taffraillaw06.CharrefNumeric", spec := "charrefNumeric", inPlace := ["internal/bytealg.IndexByteString", "internal/bytealg.CountString", "internal/bytealg.IndexString", "internal/abi.NoEscape", "internal/bytealg.MakeNoZero"], named := ["internal/bytealg.MaxLen", "unicode/utf8.first", "unicode/utf8.acceptRanges"], apart := false, laid := [("unicode/utf8.acceptRanges", laid_unicode_utf8_acceptRanges), ("unicode/utf8.first", laid_unicode_utf8_first)] }
def CharrefNumericSaid : Prop := charrefNumericRow.holds Tryd.pinned (OpenSpec.ofChange charrefNumericSpec)

/-- ITS FALSE NEIGHBOUR: 'it returns false'. Refute it at one input. -/
def charrefNumericWrong : ChangeSpec := { name := "charrefNumeric", fn := fun _ => fun
  | [d1, d2, d3] => { results := [.lit (.bool false)], args := [d1, d2, d3] }
  | _ => none }
def CharrefNumericWrongFalsely : Prop := charrefNumericRow.holds Tryd.pinned (OpenSpec.ofChange charrefNumericWrong)

/-- 'taffraillaw06.CharrefTexts': WHATEVER THE INPUT: true; the input reads as it did. -/
def charrefTextsSpec : ChangeSpec := { name := "charrefTexts", fn := fun _ => fun
  | [d1, d2] => { results := [.lit (.bool true)], args := [d1, d2] }
  | _ => none }
def charrefTextsRow : OpenClaim := { program := "ytkhjmgchlbnkjaadoor", sum := "8a995c8950a8f81bf12d35744fce9dc4e201e6225531e89cbed0071b37f80004", func := "taffrail/taffraillaw06.CharrefTexts", spec := "charrefTexts", inPlace := ["internal/bytealg.IndexByteString", "internal/bytealg.CountString", "internal/bytealg.IndexString", "internal/abi.NoEscape", "internal/bytealg.MakeNoZero"], named := ["internal/bytealg.MaxLen", "unicode/utf8.first", "unicode/utf8.acceptRanges"], apart := false, laid := [("unicode/utf8.acceptRanges", laid_unicode_utf8_acceptRanges), ("unicode/utf8.first", laid_unicode_utf8_first)] }
def CharrefTextsSaid : Prop := charrefTextsRow.holds Tryd.pinned (OpenSpec.ofChange charrefTextsSpec)

/-- ITS FALSE NEIGHBOUR: 'it returns false'. Refute it at one input. -/
def charrefTextsWrong : ChangeSpec := { name := "charrefTexts", fn := fun _ => fun
  | [d1, d2] => { results := [.lit (.bool false)], args := [d1, d2] }
  | _ => none }
def CharrefTextsWrongFalsely : Prop := charrefTextsRow.holds Tryd.pinned (OpenSpec.ofChange charrefTextsWrong)

/-- 'taffraillaw06.CharrefBack': WHATEVER THE INPUT: true; the input reads as it did. -/
def charrefBackSpec : ChangeSpec := { name := "charrefBack", fn := fun _ => fun
  | [d1, d2] => { results := [.lit (.bool true)], args := [d1, d2] }
  | _ => none }
def charrefBackRow : OpenClaim := { program := "ytkhjmgchlbnkjaadoor", sum := "8a995c8950a8f81bf12d35744fce9dc4e201e6225531e89cbed0071b37f80004", func := "taffrail/taffraillaw06.CharrefBack", spec := "charrefBack", inPlace := ["internal/bytealg.IndexByteString", "internal/bytealg.CountString", "internal/bytealg.IndexString", "internal/abi.NoEscape", "internal/bytealg.MakeNoZero"], named := ["internal/bytealg.MaxLen", "unicode/utf8.first", "unicode/utf8.acceptRanges"], apart := false, laid := [("unicode/utf8.acceptRanges", laid_unicode_utf8_acceptRanges), ("unicode/utf8.first", laid_unicode_utf8_first)] }
def CharrefBackSaid : Prop := charrefBackRow.holds Tryd.pinned (OpenSpec.ofChange charrefBackSpec)

/-- ITS FALSE NEIGHBOUR: 'it returns false'. Refute it at one input. -/
def charrefBackWrong : ChangeSpec := { name := "charrefBack", fn := fun _ => fun
  | [d1, d2] => { results := [.lit (.bool false)], args := [d1, d2] }
  | _ => none }
def CharrefBackWrongFalsely : Prop := charrefBackRow.holds Tryd.pinned (OpenSpec.ofChange charrefBackWrong)

/- THE SECOND FORM. 'bulk': how many values and letters a reading holds, each counted each time it is reached (what is shared counts as often as it is met; a slice's spare places count too). A statement '..UptoSaid' is the law's where the arguments, and the package variables that the reading takes, are together of bulk at most 1048576: NARROWER than '..Said'. Prove '..Said' where nothing that the law and all that it calls make is longer than what came in: it says more and counts as full. Else prove '..UptoSaid'. A law counts once. -/
mutual
def uptoBulk {H : Type} : DataW H → Nat
  | .lit (.string bytes) => bytes.length + 1
  | .lit _ => 1
  | .nil => 1
  | .ptr d => uptoBulk d + 1
  | .slice elems spare => uptoBulkAll elems + uptoBulkAll spare + 1
  | .agg parts => uptoBulkAll parts + 1
  | .iface _ d => uptoBulk d + 1
  | .map entries => uptoBulkEntries entries + 1
  | .held _ => 1
def uptoBulkAll {H : Type} : List (DataW H) → Nat
  | [] => 0
  | d :: r => uptoBulk d + uptoBulkAll r
def uptoBulkEntries {H : Type} : List (Lit × DataW H) → Nat
  | [] => 0
  | x :: r => uptoBulkEntry x + uptoBulkEntries r
def uptoBulkEntry {H : Type} : Lit × DataW H → Nat
  | (.string bytes, d) => bytes.length + uptoBulk d + 1
  | (_, d) => uptoBulk d + 1
 end
def uptoSmall : (H : Type) → List (DataW H) → Bool := fun _ ds => decide (uptoBulkAll ds ≤ 1048576)
def OpenSpec.upto (s : _root_.Go.ChangeSpec) : _root_.Go.OpenSpec := { _root_.Go.OpenSpec.ofChange s with cond := some uptoSmall }

/-- 'taffraillaw06.CharrefNumbers', WHERE WHAT IT READS IS OF BULK AT MOST 1048576: true; the input reads as it did. -/
def charrefNumbersUptoRow : OpenClaim := { program := "ytkhjmgchlbnkjaadoor", sum := "8a995c8950a8f81bf12d35744fce9dc4e201e6225531e89cbed0071b37f80004", func := "taffrail/taffraillaw06.CharrefNumbers", spec := "charrefNumbers", inPlace := ["internal/bytealg.IndexByteString", "internal/bytealg.CountString", "internal/bytealg.IndexString", "internal/abi.NoEscape", "internal/bytealg.MakeNoZero"], named := ["internal/bytealg.MaxLen", "unicode/utf8.first", "unicode/utf8.acceptRanges"], apart := false, laid := [("unicode/utf8.acceptRanges", laid_unicode_utf8_acceptRanges), ("unicode/utf8.first", laid_unicode_utf8_first)], narrowed := true }
def CharrefNumbersUptoSaid : Prop := charrefNumbersUptoRow.holds Tryd.pinned (OpenSpec.upto charrefNumbersSpec)

/-- 'taffraillaw06.CharrefOnes', WHERE WHAT IT READS IS OF BULK AT MOST 1048576: true; the input reads as it did. -/
def charrefOnesUptoRow : OpenClaim := { program := "ytkhjmgchlbnkjaadoor", sum := "8a995c8950a8f81bf12d35744fce9dc4e201e6225531e89cbed0071b37f80004", func := "taffrail/taffraillaw06.CharrefOnes", spec := "charrefOnes", inPlace := ["internal/bytealg.IndexByteString", "internal/bytealg.CountString", "internal/bytealg.IndexString", "internal/abi.NoEscape", "internal/bytealg.MakeNoZero"], named := ["internal/bytealg.MaxLen", "unicode/utf8.first", "unicode/utf8.acceptRanges"], apart := false, laid := [("unicode/utf8.acceptRanges", laid_unicode_utf8_acceptRanges), ("unicode/utf8.first", laid_unicode_utf8_first)], narrowed := true }
def CharrefOnesUptoSaid : Prop := charrefOnesUptoRow.holds Tryd.pinned (OpenSpec.upto charrefOnesSpec)

/-- 'taffraillaw06.CharrefNumeric', WHERE WHAT IT READS IS OF BULK AT MOST 1048576: true; the input reads as it did. -/
def charrefNumericUptoRow : OpenClaim := { program := "ytkhjmgchlbnkjaadoor", sum := "8a995c8950a8f81bf12d35744fce9dc4e201e6225531e89cbed0071b37f80004", func := "taffrail/taffraillaw06.CharrefNumeric", spec := "charrefNumeric", inPlace := ["internal/bytealg.IndexByteString", "internal/bytealg.CountString", "internal/bytealg.IndexString", "internal/abi.NoEscape", "internal/bytealg.MakeNoZero"], named := ["internal/bytealg.MaxLen", "unicode/utf8.first", "unicode/utf8.acceptRanges"], apart := false, laid := [("unicode/utf8.acceptRanges", laid_unicode_utf8_acceptRanges), ("unicode/utf8.first", laid_unicode_utf8_first)], narrowed := true }
def CharrefNumericUptoSaid : Prop := charrefNumericUptoRow.holds Tryd.pinned (OpenSpec.upto charrefNumericSpec)

/-- 'taffraillaw06.CharrefTexts', WHERE WHAT IT READS IS OF BULK AT MOST 1048576: true; the input reads as it did. -/
def charrefTextsUptoRow : OpenClaim := { program := "ytkhjmgchlbnkjaadoor", sum := "8a995c8950a8f81bf12d35744fce9dc4e201e6225531e89cbed0071b37f80004", func := "taffrail/taffraillaw06.CharrefTexts", spec := "charrefTexts", inPlace := ["internal/bytealg.IndexByteString", "internal/bytealg.CountString", "internal/bytealg.IndexString", "internal/abi.NoEscape", "internal/bytealg.MakeNoZero"], named := ["internal/bytealg.MaxLen", "unicode/utf8.first", "unicode/utf8.acceptRanges"], apart := false, laid := [("unicode/utf8.acceptRanges", laid_unicode_utf8_acceptRanges), ("unicode/utf8.first", laid_unicode_utf8_first)], narrowed := true }
def CharrefTextsUptoSaid : Prop := charrefTextsUptoRow.holds Tryd.pinned (OpenSpec.upto charrefTextsSpec)

/-- 'taffraillaw06.CharrefBack', WHERE WHAT IT READS IS OF BULK AT MOST 1048576: true; the input reads as it did. -/
def charrefBackUptoRow : OpenClaim := { program := "ytkhjmgchlbnkjaadoor", sum := "8a995c8950a8f81bf12d35744fce9dc4e201e6225531e89cbed0071b37f80004", func := "taffrail/taffraillaw06.CharrefBack", spec := "charrefBack", inPlace := ["internal/bytealg.IndexByteString", "internal/bytealg.CountString", "internal/bytealg.IndexString", "internal/abi.NoEscape", "internal/bytealg.MakeNoZero"], named := ["internal/bytealg.MaxLen", "unicode/utf8.first", "unicode/utf8.acceptRanges"], apart := false, laid := [("unicode/utf8.acceptRanges", laid_unicode_utf8_acceptRanges), ("unicode/utf8.first", laid_unicode_utf8_first)], narrowed := true }
def CharrefBackUptoSaid : Prop := charrefBackUptoRow.holds Tryd.pinned (OpenSpec.upto charrefBackSpec)

end Rows
end Go.Proofs.YtkhjmgchlbnkjaaDoor
