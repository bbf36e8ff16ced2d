/-
  No cell of these rows narrows 'for every input' (looked for: loops, veiled, ifaces, maps, wideKeys, modest, calm, conditions, laid).
  DERIVED. THE GIVEN ROWS OF THIS SEAT. 3 by the template 'for every input the law returns true; each argument reads behind the call as it read before'; 0 by the template 'total and deterministic' (their statements: YtplcallbihapdaaTotals.lean).
  GIVEN WITH THE SEED: the statements are not yours to turn. If you find one false, say at which input.
  Laid BY PROGRAM, IN A SANDBOX (cutbox-rows.mjs): the forced cells as the released guide's own fill.sh prints them over the translation 3bbb1f17ecc18ca0… (all of the seat's roots in one cut). By AI agents, Wed Nov 11 2026. No macro, syntax, notation, axiom, sorry.
-/
import Derived.Test.YtplcallbihapdaaChecked
import GoSem.Claim
import GoSem.ClaimJoined
import GoSem.ClaimMapViews
import Derived.JoinedTies
import Derived.KernelRfl
namespace Go.Proofs.Ytplcallbihapdaa
/- THE CELL 'sum', in the pinned program and in every row, IS THE sha256 OF THE DUMP (.gsa) THAT YtplcallbihapdaaProg.lean LOADS. Nothing in Lean hashes anything: it is a label: what it is worth is what the hold of that sum in a sandbox is worth. -/
noncomputable def Try.pinned : Pinned := { name := "ytplcallbihapdaa", sum := "3bbb1f17ecc18ca02eb2ec818c392da9aecf3e02fa1c1b5f40fc976863bbddd6", checked := Try.checked }
namespace Rows
def none {H : Type} : Left H := { results := [], args := [] }

/-- 'taffraillaw17.FormatsArk': WHATEVER THE INPUT: true; the input reads as it did. -/
def formatsArkSpec : ChangeSpec := { name := "formatsArk", fn := fun _ => fun
  | [d1, d2] => { results := [.lit (.bool true)], args := [d1, d2] }
  | _ => none }
def formatsArkRow : OpenClaim := { program := "ytplcallbihapdaa", sum := "3bbb1f17ecc18ca02eb2ec818c392da9aecf3e02fa1c1b5f40fc976863bbddd6", func := "taffrail/taffraillaw17.FormatsArk", spec := "formatsArk", inPlace := ["slices.overlaps[taffrail/api.El]"], unfollowed := true, recurses := true, apart := false }
def FormatsArkSaid : Prop := formatsArkRow.holds Try.pinned (OpenSpec.ofChange formatsArkSpec)

/-- ITS FALSE NEIGHBOUR: 'it returns false'. Refute it at one input. -/
def formatsArkWrong : ChangeSpec := { name := "formatsArk", fn := fun _ => fun
  | [d1, d2] => { results := [.lit (.bool false)], args := [d1, d2] }
  | _ => none }
def FormatsArkWrongFalsely : Prop := formatsArkRow.holds Try.pinned (OpenSpec.ofChange formatsArkWrong)

/-- 'taffraillaw17.FormatsCleared': WHATEVER THE INPUT: true; the input reads as it did. -/
def formatsClearedSpec : ChangeSpec := { name := "formatsCleared", fn := fun _ => fun
  | [d1, d2] => { results := [.lit (.bool true)], args := [d1, d2] }
  | _ => none }
def formatsClearedRow : OpenClaim := { program := "ytplcallbihapdaa", sum := "3bbb1f17ecc18ca02eb2ec818c392da9aecf3e02fa1c1b5f40fc976863bbddd6", func := "taffrail/taffraillaw17.FormatsCleared", spec := "formatsCleared", inPlace := ["slices.overlaps[taffrail/api.El]"], unfollowed := true, recurses := true, apart := false }
def FormatsClearedSaid : Prop := formatsClearedRow.holds Try.pinned (OpenSpec.ofChange formatsClearedSpec)

/-- ITS FALSE NEIGHBOUR: 'it returns false'. Refute it at one input. -/
def formatsClearedWrong : ChangeSpec := { name := "formatsCleared", fn := fun _ => fun
  | [d1, d2] => { results := [.lit (.bool false)], args := [d1, d2] }
  | _ => none }
def FormatsClearedWrongFalsely : Prop := formatsClearedRow.holds Try.pinned (OpenSpec.ofChange formatsClearedWrong)

/-- 'taffraillaw17.FormatsNone': WHATEVER THE INPUT: true; the input reads as it did. -/
def formatsNoneSpec : ChangeSpec := { name := "formatsNone", fn := fun _ => fun
  | [d] => { results := [.lit (.bool true)], args := [d] }
  | _ => none }
def formatsNoneRow : OpenClaim := { program := "ytplcallbihapdaa", sum := "3bbb1f17ecc18ca02eb2ec818c392da9aecf3e02fa1c1b5f40fc976863bbddd6", func := "taffrail/taffraillaw17.FormatsNone", spec := "formatsNone", inPlace := ["slices.overlaps[taffrail/api.El]"], unfollowed := true, recurses := true, apart := false }
def FormatsNoneSaid : Prop := formatsNoneRow.holds Try.pinned (OpenSpec.ofChange formatsNoneSpec)

/-- ITS FALSE NEIGHBOUR: 'it returns false'. Refute it at one input. -/
def formatsNoneWrong : ChangeSpec := { name := "formatsNone", fn := fun _ => fun
  | [d] => { results := [.lit (.bool false)], args := [d] }
  | _ => none }
def FormatsNoneWrongFalsely : Prop := formatsNoneRow.holds Try.pinned (OpenSpec.ofChange formatsNoneWrong)

/- THE SECOND FORM. 'bulk': how many values and letters a reading holds, each counted each time it is reached (what is shared counts as often as it is met; a slice's spare places count too). A statement '..UptoSaid' is the law's where the arguments, and the package variables that the reading takes, are together of bulk at most 1048576: NARROWER than '..Said'. Prove '..Said' where nothing that the law and all that it calls make is longer than what came in: it says more and counts as full. Else prove '..UptoSaid'. A law counts once. -/
mutual
def uptoBulk {H : Type} : DataW H → Nat
  | .lit (.string bytes) => bytes.length + 1
  | .lit _ => 1
  | .nil => 1
  | .ptr d => uptoBulk d + 1
  | .slice elems spare => uptoBulkAll elems + uptoBulkAll spare + 1
  | .agg parts => uptoBulkAll parts + 1
  | .iface _ d => uptoBulk d + 1
  | .map entries => uptoBulkEntries entries + 1
  | .held _ => 1
def uptoBulkAll {H : Type} : List (DataW H) → Nat
  | [] => 0
  | d :: r => uptoBulk d + uptoBulkAll r
def uptoBulkEntries {H : Type} : List (Lit × DataW H) → Nat
  | [] => 0
  | x :: r => uptoBulkEntry x + uptoBulkEntries r
def uptoBulkEntry {H : Type} : Lit × DataW H → Nat
  | (.string bytes, d) => bytes.length + uptoBulk d + 1
  | (_, d) => uptoBulk d + 1
 end
def uptoSmall : (H : Type) → List (DataW H) → Bool := fun _ ds => decide (uptoBulkAll ds ≤ 1048576)
def OpenSpec.upto (s : _root_.Go.ChangeSpec) : _root_.Go.OpenSpec := { _root_.Go.OpenSpec.ofChange s with cond := some uptoSmall }

/-- 'taffraillaw17.FormatsArk', WHERE WHAT IT READS IS OF BULK AT MOST 1048576: true; the input reads as it did. -/
def formatsArkUptoRow : OpenClaim := { program := "ytplcallbihapdaa", sum := "3bbb1f17ecc18ca02eb2ec818c392da9aecf3e02fa1c1b5f40fc976863bbddd6", func := "taffrail/taffraillaw17.FormatsArk", spec := "formatsArk", inPlace := ["slices.overlaps[taffrail/api.El]"], unfollowed := true, recurses := true, apart := false, narrowed := true }
def FormatsArkUptoSaid : Prop := formatsArkUptoRow.holds Try.pinned (OpenSpec.upto formatsArkSpec)

/-- 'taffraillaw17.FormatsCleared', WHERE WHAT IT READS IS OF BULK AT MOST 1048576: true; the input reads as it did. -/
def formatsClearedUptoRow : OpenClaim := { program := "ytplcallbihapdaa", sum := "3bbb1f17ecc18ca02eb2ec818c392da9aecf3e02fa1c1b5f40fc976863bbddd6", func := "taffrail/taffraillaw17.FormatsCleared", spec := "formatsCleared", inPlace := ["slices.overlaps[taffrail/api.El]"], unfollowed := true, recurses := true, apart := false, narrowed := true }
def FormatsClearedUptoSaid : Prop := formatsClearedUptoRow.holds Try.pinned (OpenSpec.upto formatsClearedSpec)

/-- 'taffraillaw17.FormatsNone', WHERE WHAT IT READS IS OF BULK AT MOST 1048576: true; the input reads as it did. -/
def formatsNoneUptoRow : OpenClaim := { program := "ytplcallbihapdaa", sum := "3bbb1f17ecc18ca02eb2ec818c392da9aecf3e02fa1c1b5f40fc976863bbddd6", func := "taffrail/taffraillaw17.FormatsNone", spec := "formatsNone", inPlace := ["slices.overlaps[taffrail/api.El]"], unfollowed := true, recurses := true, apart := false, narrowed := true }
def FormatsNoneUptoSaid : Prop := formatsNoneUptoRow.holds Try.pinned (OpenSpec.upto formatsNoneSpec)

end Rows
end Go.Proofs.Ytplcallbihapdaa
