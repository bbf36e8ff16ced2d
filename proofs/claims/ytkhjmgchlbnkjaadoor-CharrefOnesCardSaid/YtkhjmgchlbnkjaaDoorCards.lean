/-
  DERIVED. GIVEN WITH THE SEED: THE CARDS: each row of YtkhjmgchlbnkjaaDoorRows.lean that lists a variable, with what it lists TIED to the program's text (the seventh form; the later family's looks); each row that meets fmt, with fmt's text TOLD by the authors' own Lean function (tested against real Go, not proved from fmt's source: count such statements apart). THE CARD IS WHAT COUNTS. Prove the row's statement (the work); the ties are given (YtkhjmgchlbnkjaaDoorTie.lean); close each card by the builder's one call (the guide's Derived/Test/ToyasCard.lean, 'card_holds'). Laid BY PROGRAM, IN A SANDBOX (cutbox-door.mjs). By AI agents, Wed Nov 11 2026. No macro, syntax, notation, axiom, sorry.
-/
import Derived.Test.YtkhjmgchlbnkjaaDoorRows
import GoSem.ClaimSeven
namespace Go.Proofs.YtkhjmgchlbnkjaaDoor
namespace Rows

/-- THE TIED CARD OF 'taffraillaw06.CharrefNumbers'. -/
def charrefNumbersCard : Claim7 := { stood := { row := charrefNumbersRow, standIns := [], harness := (true, "eb05fdb028fb190ab49aeacdfa8876e87fe62d97cbd79137b2d398db56e9faa5"), looks := false }, kinds := [], alts := [], laidByText := true, laidKinds := [.data, .pinned], laidTests := true, laidLooks := .later }
def CharrefNumbersCardSaid : Prop := Claim7.holds Tryd.pinned (.plain (OpenSpec.ofChange charrefNumbersSpec)) charrefNumbersCard

/-- THE TIED CARD OF 'taffraillaw06.CharrefOnes'. -/
def charrefOnesCard : Claim7 := { stood := { row := charrefOnesRow, standIns := [], harness := (true, "eb05fdb028fb190ab49aeacdfa8876e87fe62d97cbd79137b2d398db56e9faa5"), looks := false }, kinds := [], alts := [], laidByText := true, laidKinds := [.data, .pinned], laidTests := true, laidLooks := .later }
def CharrefOnesCardSaid : Prop := Claim7.holds Tryd.pinned (.plain (OpenSpec.ofChange charrefOnesSpec)) charrefOnesCard

/-- THE TIED CARD OF 'taffraillaw06.CharrefNumeric'. -/
def charrefNumericCard : Claim7 := { stood := { row := charrefNumericRow, standIns := [], harness := (true, "eb05fdb028fb190ab49aeacdfa8876e87fe62d97cbd79137b2d398db56e9faa5"), looks := false }, kinds := [], alts := [], laidByText := true, laidKinds := [.data, .pinned], laidTests := true, laidLooks := .later }
def CharrefNumericCardSaid : Prop := Claim7.holds Tryd.pinned (.plain (OpenSpec.ofChange charrefNumericSpec)) charrefNumericCard

/-- THE TIED CARD OF 'taffraillaw06.CharrefTexts'. -/
def charrefTextsCard : Claim7 := { stood := { row := charrefTextsRow, standIns := [], harness := (true, "eb05fdb028fb190ab49aeacdfa8876e87fe62d97cbd79137b2d398db56e9faa5"), looks := false }, kinds := [], alts := [], laidByText := true, laidKinds := [.data, .pinned], laidTests := true, laidLooks := .later }
def CharrefTextsCardSaid : Prop := Claim7.holds Tryd.pinned (.plain (OpenSpec.ofChange charrefTextsSpec)) charrefTextsCard

/-- THE TIED CARD OF 'taffraillaw06.CharrefBack'. -/
def charrefBackCard : Claim7 := { stood := { row := charrefBackRow, standIns := [], harness := (true, "eb05fdb028fb190ab49aeacdfa8876e87fe62d97cbd79137b2d398db56e9faa5"), looks := false }, kinds := [], alts := [], laidByText := true, laidKinds := [.data, .pinned], laidTests := true, laidLooks := .later }
def CharrefBackCardSaid : Prop := Claim7.holds Tryd.pinned (.plain (OpenSpec.ofChange charrefBackSpec)) charrefBackCard

/-- THE SECOND FORM's CARD OF 'taffraillaw06.CharrefNumbers'. -/
def charrefNumbersUptoCard : Claim7 := { stood := { row := charrefNumbersUptoRow, standIns := [], harness := (true, "eb05fdb028fb190ab49aeacdfa8876e87fe62d97cbd79137b2d398db56e9faa5"), looks := false }, kinds := [], alts := [], laidByText := true, laidKinds := [.data, .pinned], laidTests := true, laidLooks := .later }
def CharrefNumbersUptoCardSaid : Prop := Claim7.holds Tryd.pinned (.plain (OpenSpec.upto charrefNumbersSpec)) charrefNumbersUptoCard

/-- THE SECOND FORM's CARD OF 'taffraillaw06.CharrefOnes'. -/
def charrefOnesUptoCard : Claim7 := { stood := { row := charrefOnesUptoRow, standIns := [], harness := (true, "eb05fdb028fb190ab49aeacdfa8876e87fe62d97cbd79137b2d398db56e9faa5"), looks := false }, kinds := [], alts := [], laidByText := true, laidKinds := [.data, .pinned], laidTests := true, laidLooks := .later }
def CharrefOnesUptoCardSaid : Prop := Claim7.holds Tryd.pinned (.plain (OpenSpec.upto charrefOnesSpec)) charrefOnesUptoCard

/-- THE SECOND FORM's CARD OF 'taffraillaw06.CharrefNumeric'. -/
def charrefNumericUptoCard : Claim7 := { stood := { row := charrefNumericUptoRow, standIns := [], harness := (true, "eb05fdb028fb190ab49aeacdfa8876e87fe62d97cbd79137b2d398db56e9faa5"), looks := false }, kinds := [], alts := [], laidByText := true, laidKinds := [.data, .pinned], laidTests := true, laidLooks := .later }
def CharrefNumericUptoCardSaid : Prop := Claim7.holds Tryd.pinned (.plain (OpenSpec.upto charrefNumericSpec)) charrefNumericUptoCard

/-- THE SECOND FORM's CARD OF 'taffraillaw06.CharrefTexts'. -/
def charrefTextsUptoCard : Claim7 := { stood := { row := charrefTextsUptoRow, standIns := [], harness := (true, "eb05fdb028fb190ab49aeacdfa8876e87fe62d97cbd79137b2d398db56e9faa5"), looks := false }, kinds := [], alts := [], laidByText := true, laidKinds := [.data, .pinned], laidTests := true, laidLooks := .later }
def CharrefTextsUptoCardSaid : Prop := Claim7.holds Tryd.pinned (.plain (OpenSpec.upto charrefTextsSpec)) charrefTextsUptoCard

/-- THE SECOND FORM's CARD OF 'taffraillaw06.CharrefBack'. -/
def charrefBackUptoCard : Claim7 := { stood := { row := charrefBackUptoRow, standIns := [], harness := (true, "eb05fdb028fb190ab49aeacdfa8876e87fe62d97cbd79137b2d398db56e9faa5"), looks := false }, kinds := [], alts := [], laidByText := true, laidKinds := [.data, .pinned], laidTests := true, laidLooks := .later }
def CharrefBackUptoCardSaid : Prop := Claim7.holds Tryd.pinned (.plain (OpenSpec.upto charrefBackSpec)) charrefBackUptoCard
end Rows
end Go.Proofs.YtkhjmgchlbnkjaaDoor
