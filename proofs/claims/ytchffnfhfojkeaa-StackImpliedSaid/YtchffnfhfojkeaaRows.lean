/-
  No cell of these rows narrows 'for every input' (looked for: loops, veiled, ifaces, maps, wideKeys, modest, calm, conditions, laid).
  DERIVED. THE GIVEN ROWS OF THIS SEAT. 5 by the template 'for every input the law returns true; each argument reads behind the call as it read before'; 0 by the template 'total and deterministic' (their statements: YtchffnfhfojkeaaTotals.lean).
  GIVEN WITH THE SEED: the statements are not yours to turn. If you find one false, say at which input.
  Laid BY PROGRAM, IN A SANDBOX (cutbox-rows.mjs): the forced cells as the released guide's own fill.sh prints them over the translation 99f26b567fa94f91… (all of the seat's roots in one cut). By AI agents, Wed Nov 11 2026. No macro, syntax, notation, axiom, sorry.
-/
import Derived.Test.YtchffnfhfojkeaaChecked
import GoSem.Claim
import GoSem.ClaimJoined
import GoSem.ClaimMapViews
import Derived.JoinedTies
import Derived.KernelRfl
namespace Go.Proofs.Ytchffnfhfojkeaa
/- THE CELL 'sum', in the pinned program and in every row, IS THE sha256 OF THE DUMP (.gsa) THAT YtchffnfhfojkeaaProg.lean LOADS. Nothing in Lean hashes anything: it is a label: what it is worth is what the hold of that sum in a sandbox is worth. -/
noncomputable def Try.pinned : Pinned := { name := "ytchffnfhfojkeaa", sum := "99f26b567fa94f91c798c4cdad67d4670c6f25cd67803c171484ba1b3e45f83d", checked := Try.checked }
namespace Rows
def none {H : Type} : Left H := { results := [], args := [] }

/-- 'taffraillaw16.StackScopes': WHATEVER THE INPUT: true; the input reads as it did. -/
def stackScopesSpec : ChangeSpec := { name := "stackScopes", fn := fun _ => fun
  | [d1, d2] => { results := [.lit (.bool true)], args := [d1, d2] }
  | _ => none }
def stackScopesRow : OpenClaim := { program := "ytchffnfhfojkeaa", sum := "99f26b567fa94f91c798c4cdad67d4670c6f25cd67803c171484ba1b3e45f83d", func := "taffrail/taffraillaw16.StackScopes", spec := "stackScopes", inPlace := ["internal/bytealg.IndexByteString", "internal/bytealg.IndexString"], unfollowed := true, recurses := true, named := ["internal/bytealg.MaxLen"], apart := false }
def StackScopesSaid : Prop := stackScopesRow.holds Try.pinned (OpenSpec.ofChange stackScopesSpec)

/-- ITS FALSE NEIGHBOUR: 'it returns false'. Refute it at one input. -/
def stackScopesWrong : ChangeSpec := { name := "stackScopes", fn := fun _ => fun
  | [d1, d2] => { results := [.lit (.bool false)], args := [d1, d2] }
  | _ => none }
def StackScopesWrongFalsely : Prop := stackScopesRow.holds Try.pinned (OpenSpec.ofChange stackScopesWrong)

/-- 'taffraillaw16.StackImplied': WHATEVER THE INPUT: true; the input reads as it did. -/
def stackImpliedSpec : ChangeSpec := { name := "stackImplied", fn := fun _ => fun
  | [d1, d2] => { results := [.lit (.bool true)], args := [d1, d2] }
  | _ => none }
def stackImpliedRow : OpenClaim := { program := "ytchffnfhfojkeaa", sum := "99f26b567fa94f91c798c4cdad67d4670c6f25cd67803c171484ba1b3e45f83d", func := "taffrail/taffraillaw16.StackImplied", spec := "stackImplied", inPlace := ["internal/bytealg.IndexByteString", "internal/bytealg.IndexString"], unfollowed := true, recurses := true, named := ["internal/bytealg.MaxLen"], apart := false }
def StackImpliedSaid : Prop := stackImpliedRow.holds Try.pinned (OpenSpec.ofChange stackImpliedSpec)

/-- ITS FALSE NEIGHBOUR: 'it returns false'. Refute it at one input. -/
def stackImpliedWrong : ChangeSpec := { name := "stackImplied", fn := fun _ => fun
  | [d1, d2] => { results := [.lit (.bool false)], args := [d1, d2] }
  | _ => none }
def StackImpliedWrongFalsely : Prop := stackImpliedRow.holds Try.pinned (OpenSpec.ofChange stackImpliedWrong)

/-- 'taffraillaw16.StackPlays': WHATEVER THE INPUT: true; the input reads as it did. -/
def stackPlaysSpec : ChangeSpec := { name := "stackPlays", fn := fun _ => fun
  | [d] => { results := [.lit (.bool true)], args := [d] }
  | _ => none }
def stackPlaysRow : OpenClaim := { program := "ytchffnfhfojkeaa", sum := "99f26b567fa94f91c798c4cdad67d4670c6f25cd67803c171484ba1b3e45f83d", func := "taffrail/taffraillaw16.StackPlays", spec := "stackPlays", inPlace := ["internal/bytealg.IndexByteString", "internal/bytealg.IndexString", "slices.overlaps[taffrail/api.El]"], unfollowed := true, recurses := true, named := ["internal/bytealg.MaxLen"], apart := false }
def StackPlaysSaid : Prop := stackPlaysRow.holds Try.pinned (OpenSpec.ofChange stackPlaysSpec)

/-- ITS FALSE NEIGHBOUR: 'it returns false'. Refute it at one input. -/
def stackPlaysWrong : ChangeSpec := { name := "stackPlays", fn := fun _ => fun
  | [d] => { results := [.lit (.bool false)], args := [d] }
  | _ => none }
def StackPlaysWrongFalsely : Prop := stackPlaysRow.holds Try.pinned (OpenSpec.ofChange stackPlaysWrong)

/-- 'taffraillaw16.StackCopies': WHATEVER THE INPUT: true; the input reads as it did. -/
def stackCopiesSpec : ChangeSpec := { name := "stackCopies", fn := fun _ => fun
  | [d1, d2] => { results := [.lit (.bool true)], args := [d1, d2] }
  | _ => none }
def stackCopiesRow : OpenClaim := { program := "ytchffnfhfojkeaa", sum := "99f26b567fa94f91c798c4cdad67d4670c6f25cd67803c171484ba1b3e45f83d", func := "taffrail/taffraillaw16.StackCopies", spec := "stackCopies", inPlace := ["internal/bytealg.IndexByteString", "internal/bytealg.IndexString", "slices.overlaps[taffrail/api.El]"], unfollowed := true, recurses := true, named := ["internal/bytealg.MaxLen"], apart := false }
def StackCopiesSaid : Prop := stackCopiesRow.holds Try.pinned (OpenSpec.ofChange stackCopiesSpec)

/-- ITS FALSE NEIGHBOUR: 'it returns false'. Refute it at one input. -/
def stackCopiesWrong : ChangeSpec := { name := "stackCopies", fn := fun _ => fun
  | [d1, d2] => { results := [.lit (.bool false)], args := [d1, d2] }
  | _ => none }
def StackCopiesWrongFalsely : Prop := stackCopiesRow.holds Try.pinned (OpenSpec.ofChange stackCopiesWrong)

/-- 'taffraillaw16.StackNone': WHATEVER THE INPUT: true; the input reads as it did. -/
def stackNoneSpec : ChangeSpec := { name := "stackNone", fn := fun _ => fun
  | [d] => { results := [.lit (.bool true)], args := [d] }
  | _ => none }
def stackNoneRow : OpenClaim := { program := "ytchffnfhfojkeaa", sum := "99f26b567fa94f91c798c4cdad67d4670c6f25cd67803c171484ba1b3e45f83d", func := "taffrail/taffraillaw16.StackNone", spec := "stackNone", inPlace := ["internal/bytealg.IndexByteString", "internal/bytealg.IndexString", "slices.overlaps[taffrail/api.El]"], unfollowed := true, recurses := true, named := ["internal/bytealg.MaxLen"], apart := false }
def StackNoneSaid : Prop := stackNoneRow.holds Try.pinned (OpenSpec.ofChange stackNoneSpec)

/-- ITS FALSE NEIGHBOUR: 'it returns false'. Refute it at one input. -/
def stackNoneWrong : ChangeSpec := { name := "stackNone", fn := fun _ => fun
  | [d] => { results := [.lit (.bool false)], args := [d] }
  | _ => none }
def StackNoneWrongFalsely : Prop := stackNoneRow.holds Try.pinned (OpenSpec.ofChange stackNoneWrong)

/- THE SECOND FORM. 'bulk': how many values and letters a reading holds, each counted each time it is reached (what is shared counts as often as it is met; a slice's spare places count too). A statement '..UptoSaid' is the law's where the arguments, and the package variables that the reading takes, are together of bulk at most 1048576: NARROWER than '..Said'. Prove '..Said' where nothing that the law and all that it calls make is longer than what came in: it says more and counts as full. Else prove '..UptoSaid'. A law counts once. -/
mutual
def uptoBulk {H : Type} : DataW H → Nat
  | .lit (.string bytes) => bytes.length + 1
  | .lit _ => 1
  | .nil => 1
  | .ptr d => uptoBulk d + 1
  | .slice elems spare => uptoBulkAll elems + uptoBulkAll spare + 1
  | .agg parts => uptoBulkAll parts + 1
  | .iface _ d => uptoBulk d + 1
  | .map entries => uptoBulkEntries entries + 1
  | .held _ => 1
def uptoBulkAll {H : Type} : List (DataW H) → Nat
  | [] => 0
  | d :: r => uptoBulk d + uptoBulkAll r
def uptoBulkEntries {H : Type} : List (Lit × DataW H) → Nat
  | [] => 0
  | x :: r => uptoBulkEntry x + uptoBulkEntries r
def uptoBulkEntry {H : Type} : Lit × DataW H → Nat
  | (.string bytes, d) => bytes.length + uptoBulk d + 1
  | (_, d) => uptoBulk d + 1
 end
def uptoSmall : (H : Type) → List (DataW H) → Bool := fun _ ds => decide (uptoBulkAll ds ≤ 1048576)
def OpenSpec.upto (s : _root_.Go.ChangeSpec) : _root_.Go.OpenSpec := { _root_.Go.OpenSpec.ofChange s with cond := some uptoSmall }

/-- 'taffraillaw16.StackScopes', WHERE WHAT IT READS IS OF BULK AT MOST 1048576: true; the input reads as it did. -/
def stackScopesUptoRow : OpenClaim := { program := "ytchffnfhfojkeaa", sum := "99f26b567fa94f91c798c4cdad67d4670c6f25cd67803c171484ba1b3e45f83d", func := "taffrail/taffraillaw16.StackScopes", spec := "stackScopes", inPlace := ["internal/bytealg.IndexByteString", "internal/bytealg.IndexString"], unfollowed := true, recurses := true, named := ["internal/bytealg.MaxLen"], apart := false, narrowed := true }
def StackScopesUptoSaid : Prop := stackScopesUptoRow.holds Try.pinned (OpenSpec.upto stackScopesSpec)

/-- 'taffraillaw16.StackImplied', WHERE WHAT IT READS IS OF BULK AT MOST 1048576: true; the input reads as it did. -/
def stackImpliedUptoRow : OpenClaim := { program := "ytchffnfhfojkeaa", sum := "99f26b567fa94f91c798c4cdad67d4670c6f25cd67803c171484ba1b3e45f83d", func := "taffrail/taffraillaw16.StackImplied", spec := "stackImplied", inPlace := ["internal/bytealg.IndexByteString", "internal/bytealg.IndexString"], unfollowed := true, recurses := true, named := ["internal/bytealg.MaxLen"], apart := false, narrowed := true }
def StackImpliedUptoSaid : Prop := stackImpliedUptoRow.holds Try.pinned (OpenSpec.upto stackImpliedSpec)

/-- 'taffraillaw16.StackPlays', WHERE WHAT IT READS IS OF BULK AT MOST 1048576: true; the input reads as it did. -/
def stackPlaysUptoRow : OpenClaim := { program := "ytchffnfhfojkeaa", sum := "99f26b567fa94f91c798c4cdad67d4670c6f25cd67803c171484ba1b3e45f83d", func := "taffrail/taffraillaw16.StackPlays", spec := "stackPlays", inPlace := ["internal/bytealg.IndexByteString", "internal/bytealg.IndexString", "slices.overlaps[taffrail/api.El]"], unfollowed := true, recurses := true, named := ["internal/bytealg.MaxLen"], apart := false, narrowed := true }
def StackPlaysUptoSaid : Prop := stackPlaysUptoRow.holds Try.pinned (OpenSpec.upto stackPlaysSpec)

/-- 'taffraillaw16.StackCopies', WHERE WHAT IT READS IS OF BULK AT MOST 1048576: true; the input reads as it did. -/
def stackCopiesUptoRow : OpenClaim := { program := "ytchffnfhfojkeaa", sum := "99f26b567fa94f91c798c4cdad67d4670c6f25cd67803c171484ba1b3e45f83d", func := "taffrail/taffraillaw16.StackCopies", spec := "stackCopies", inPlace := ["internal/bytealg.IndexByteString", "internal/bytealg.IndexString", "slices.overlaps[taffrail/api.El]"], unfollowed := true, recurses := true, named := ["internal/bytealg.MaxLen"], apart := false, narrowed := true }
def StackCopiesUptoSaid : Prop := stackCopiesUptoRow.holds Try.pinned (OpenSpec.upto stackCopiesSpec)

/-- 'taffraillaw16.StackNone', WHERE WHAT IT READS IS OF BULK AT MOST 1048576: true; the input reads as it did. -/
def stackNoneUptoRow : OpenClaim := { program := "ytchffnfhfojkeaa", sum := "99f26b567fa94f91c798c4cdad67d4670c6f25cd67803c171484ba1b3e45f83d", func := "taffrail/taffraillaw16.StackNone", spec := "stackNone", inPlace := ["internal/bytealg.IndexByteString", "internal/bytealg.IndexString", "slices.overlaps[taffrail/api.El]"], unfollowed := true, recurses := true, named := ["internal/bytealg.MaxLen"], apart := false, narrowed := true }
def StackNoneUptoSaid : Prop := stackNoneUptoRow.holds Try.pinned (OpenSpec.upto stackNoneSpec)

end Rows
end Go.Proofs.Ytchffnfhfojkeaa
