/-
  No cell of these rows narrows 'for every input' (looked for: loops, veiled, ifaces, maps, wideKeys, modest, calm, conditions, laid).
  DERIVED. THE GIVEN ROWS OF THIS SEAT. 4 by the template 'for every input the law returns true; each argument reads behind the call as it read before'; 0 by the template 'total and deterministic' (their statements: YtanjaiaofcjcgaaTotals.lean).
  GIVEN WITH THE SEED: the statements are not yours to turn. If you find one false, say at which input.
  Laid BY PROGRAM, IN A SANDBOX (cutbox-rows.mjs): the forced cells as the released guide's own fill.sh prints them over the translation fa6a675a233b0b17… (all of the seat's roots in one cut). By AI agents, Wed Nov 11 2026. No macro, syntax, notation, axiom, sorry.
-/
import Derived.Test.YtanjaiaofcjcgaaChecked
import GoSem.Claim
import GoSem.ClaimJoined
import GoSem.ClaimMapViews
import Derived.JoinedTies
import Derived.KernelRfl
namespace Go.Proofs.Ytanjaiaofcjcgaa
/- THE CELL 'sum', in the pinned program and in every row, IS THE sha256 OF THE DUMP (.gsa) THAT YtanjaiaofcjcgaaProg.lean LOADS. Nothing in Lean hashes anything: it is a label: what it is worth is what the hold of that sum in a sandbox is worth. -/
noncomputable def Try.pinned : Pinned := { name := "ytanjaiaofcjcgaa", sum := "fa6a675a233b0b176c1a588f01e34ddd3ef2bc91bc3ca814653aebfee9617be3", checked := Try.checked }
namespace Rows
def none {H : Type} : Left H := { results := [], args := [] }

/-- 'taffraillaw21.ModesResets': WHATEVER THE INPUT: true; the input reads as it did. -/
def modesResetsSpec : ChangeSpec := { name := "modesResets", fn := fun _ => fun
  | [d1, d2] => { results := [.lit (.bool true)], args := [d1, d2] }
  | _ => none }
def modesResetsRow : OpenClaim := { program := "ytanjaiaofcjcgaa", sum := "fa6a675a233b0b176c1a588f01e34ddd3ef2bc91bc3ca814653aebfee9617be3", func := "taffrail/taffraillaw21.ModesResets", spec := "modesResets", unfollowed := true, recurses := true, apart := false }
def ModesResetsSaid : Prop := modesResetsRow.holds Try.pinned (OpenSpec.ofChange modesResetsSpec)

/-- ITS FALSE NEIGHBOUR: 'it returns false'. Refute it at one input. -/
def modesResetsWrong : ChangeSpec := { name := "modesResets", fn := fun _ => fun
  | [d1, d2] => { results := [.lit (.bool false)], args := [d1, d2] }
  | _ => none }
def ModesResetsWrongFalsely : Prop := modesResetsRow.holds Try.pinned (OpenSpec.ofChange modesResetsWrong)

/-- 'taffraillaw21.ModesCloses': WHATEVER THE INPUT: true; the input reads as it did. -/
def modesClosesSpec : ChangeSpec := { name := "modesCloses", fn := fun _ => fun
  | [d1, d2] => { results := [.lit (.bool true)], args := [d1, d2] }
  | _ => none }
def modesClosesRow : OpenClaim := { program := "ytanjaiaofcjcgaa", sum := "fa6a675a233b0b176c1a588f01e34ddd3ef2bc91bc3ca814653aebfee9617be3", func := "taffrail/taffraillaw21.ModesCloses", spec := "modesCloses", unfollowed := true, recurses := true, apart := false }
def ModesClosesSaid : Prop := modesClosesRow.holds Try.pinned (OpenSpec.ofChange modesClosesSpec)

/-- ITS FALSE NEIGHBOUR: 'it returns false'. Refute it at one input. -/
def modesClosesWrong : ChangeSpec := { name := "modesCloses", fn := fun _ => fun
  | [d1, d2] => { results := [.lit (.bool false)], args := [d1, d2] }
  | _ => none }
def ModesClosesWrongFalsely : Prop := modesClosesRow.holds Try.pinned (OpenSpec.ofChange modesClosesWrong)

/-- 'taffraillaw21.ModesForeign': WHATEVER THE INPUT: true; the input reads as it did. -/
def modesForeignSpec : ChangeSpec := { name := "modesForeign", fn := fun _ => fun
  | [d1, d2, d3] => { results := [.lit (.bool true)], args := [d1, d2, d3] }
  | _ => none }
def modesForeignRow : OpenClaim := { program := "ytanjaiaofcjcgaa", sum := "fa6a675a233b0b176c1a588f01e34ddd3ef2bc91bc3ca814653aebfee9617be3", func := "taffrail/taffraillaw21.ModesForeign", spec := "modesForeign", unfollowed := true, recurses := true, apart := false }
def ModesForeignSaid : Prop := modesForeignRow.holds Try.pinned (OpenSpec.ofChange modesForeignSpec)

/-- ITS FALSE NEIGHBOUR: 'it returns false'. Refute it at one input. -/
def modesForeignWrong : ChangeSpec := { name := "modesForeign", fn := fun _ => fun
  | [d1, d2, d3] => { results := [.lit (.bool false)], args := [d1, d2, d3] }
  | _ => none }
def ModesForeignWrongFalsely : Prop := modesForeignRow.holds Try.pinned (OpenSpec.ofChange modesForeignWrong)

/-- 'taffraillaw21.ModesNested': WHATEVER THE INPUT: true; the input reads as it did. -/
def modesNestedSpec : ChangeSpec := { name := "modesNested", fn := fun _ => fun
  | [d] => { results := [.lit (.bool true)], args := [d] }
  | _ => none }
def modesNestedRow : OpenClaim := { program := "ytanjaiaofcjcgaa", sum := "fa6a675a233b0b176c1a588f01e34ddd3ef2bc91bc3ca814653aebfee9617be3", func := "taffrail/taffraillaw21.ModesNested", spec := "modesNested", unfollowed := true, recurses := true, apart := false }
def ModesNestedSaid : Prop := modesNestedRow.holds Try.pinned (OpenSpec.ofChange modesNestedSpec)

/-- ITS FALSE NEIGHBOUR: 'it returns false'. Refute it at one input. -/
def modesNestedWrong : ChangeSpec := { name := "modesNested", fn := fun _ => fun
  | [d] => { results := [.lit (.bool false)], args := [d] }
  | _ => none }
def ModesNestedWrongFalsely : Prop := modesNestedRow.holds Try.pinned (OpenSpec.ofChange modesNestedWrong)

/- THE SECOND FORM. 'bulk': how many values and letters a reading holds, each counted each time it is reached (what is shared counts as often as it is met; a slice's spare places count too). A statement '..UptoSaid' is the law's where the arguments, and the package variables that the reading takes, are together of bulk at most 1048576: NARROWER than '..Said'. Prove '..Said' where nothing that the law and all that it calls make is longer than what came in: it says more and counts as full. Else prove '..UptoSaid'. A law counts once. -/
mutual
def uptoBulk {H : Type} : DataW H → Nat
  | .lit (.string bytes) => bytes.length + 1
  | .lit _ => 1
  | .nil => 1
  | .ptr d => uptoBulk d + 1
  | .slice elems spare => uptoBulkAll elems + uptoBulkAll spare + 1
  | .agg parts => uptoBulkAll parts + 1
  | .iface _ d => uptoBulk d + 1
  | .map entries => uptoBulkEntries entries + 1
  | .held _ => 1
def uptoBulkAll {H : Type} : List (DataW H) → Nat
  | [] => 0
  | d :: r => uptoBulk d + uptoBulkAll r
def uptoBulkEntries {H : Type} : List (Lit × DataW H) → Nat
  | [] => 0
  | x :: r => uptoBulkEntry x + uptoBulkEntries r
def uptoBulkEntry {H : Type} : Lit × DataW H → Nat
  | (.string bytes, d) => bytes.length + uptoBulk d + 1
  | (_, d) => uptoBulk d + 1
 end
def uptoSmall : (H : Type) → List (DataW H) → Bool := fun _ ds => decide (uptoBulkAll ds ≤ 1048576)
def OpenSpec.upto (s : _root_.Go.ChangeSpec) : _root_.Go.OpenSpec := { _root_.Go.OpenSpec.ofChange s with cond := some uptoSmall }

/-- 'taffraillaw21.ModesResets', WHERE WHAT IT READS IS OF BULK AT MOST 1048576: true; the input reads as it did. -/
def modesResetsUptoRow : OpenClaim := { program := "ytanjaiaofcjcgaa", sum := "fa6a675a233b0b176c1a588f01e34ddd3ef2bc91bc3ca814653aebfee9617be3", func := "taffrail/taffraillaw21.ModesResets", spec := "modesResets", unfollowed := true, recurses := true, apart := false, narrowed := true }
def ModesResetsUptoSaid : Prop := modesResetsUptoRow.holds Try.pinned (OpenSpec.upto modesResetsSpec)

/-- 'taffraillaw21.ModesCloses', WHERE WHAT IT READS IS OF BULK AT MOST 1048576: true; the input reads as it did. -/
def modesClosesUptoRow : OpenClaim := { program := "ytanjaiaofcjcgaa", sum := "fa6a675a233b0b176c1a588f01e34ddd3ef2bc91bc3ca814653aebfee9617be3", func := "taffrail/taffraillaw21.ModesCloses", spec := "modesCloses", unfollowed := true, recurses := true, apart := false, narrowed := true }
def ModesClosesUptoSaid : Prop := modesClosesUptoRow.holds Try.pinned (OpenSpec.upto modesClosesSpec)

/-- 'taffraillaw21.ModesForeign', WHERE WHAT IT READS IS OF BULK AT MOST 1048576: true; the input reads as it did. -/
def modesForeignUptoRow : OpenClaim := { program := "ytanjaiaofcjcgaa", sum := "fa6a675a233b0b176c1a588f01e34ddd3ef2bc91bc3ca814653aebfee9617be3", func := "taffrail/taffraillaw21.ModesForeign", spec := "modesForeign", unfollowed := true, recurses := true, apart := false, narrowed := true }
def ModesForeignUptoSaid : Prop := modesForeignUptoRow.holds Try.pinned (OpenSpec.upto modesForeignSpec)

/-- 'taffraillaw21.ModesNested', WHERE WHAT IT READS IS OF BULK AT MOST 1048576: true; the input reads as it did. -/
def modesNestedUptoRow : OpenClaim := { program := "ytanjaiaofcjcgaa", sum := "fa6a675a233b0b176c1a588f01e34ddd3ef2bc91bc3ca814653aebfee9617be3", func := "taffrail/taffraillaw21.ModesNested", spec := "modesNested", unfollowed := true, recurses := true, apart := false, narrowed := true }
def ModesNestedUptoSaid : Prop := modesNestedUptoRow.holds Try.pinned (OpenSpec.upto modesNestedSpec)

end Rows
end Go.Proofs.Ytanjaiaofcjcgaa
