/-
  No cell of these rows narrows 'for every input' (looked for: loops, veiled, ifaces, maps, wideKeys, modest, calm, conditions, laid).
  DERIVED. THE GIVEN ROWS OF THIS SEAT. 6 by the template 'for every input the law returns true; each argument reads behind the call as it read before'; 0 by the template 'total and deterministic' (their statements: YtfeaeabhnkehcaaTotals.lean).
  GIVEN WITH THE SEED: the statements are not yours to turn. If you find one false, say at which input.
  Laid BY PROGRAM, IN A SANDBOX (cutbox-rows.mjs): the forced cells as the released guide's own fill.sh prints them over the translation 51218ce6065df5d1… (all of the seat's roots in one cut). By AI agents, Wed Nov 11 2026. No macro, syntax, notation, axiom, sorry.
-/
import Derived.Test.YtfeaeabhnkehcaaChecked
import GoSem.Claim
import GoSem.ClaimJoined
import GoSem.ClaimMapViews
import Derived.JoinedTies
import Derived.KernelRfl
namespace Go.Proofs.Ytfeaeabhnkehcaa
/- THE CELL 'sum', in the pinned program and in every row, IS THE sha256 OF THE DUMP (.gsa) THAT YtfeaeabhnkehcaaProg.lean LOADS. Nothing in Lean hashes anything: it is a label: what it is worth is what the hold of that sum in a sandbox is worth. -/
noncomputable def Try.pinned : Pinned := { name := "ytfeaeabhnkehcaa", sum := "51218ce6065df5d1d1880deee7679da8fa190849adbb6cbdf00ee195552ae85c", checked := Try.checked }
namespace Rows
def none {H : Type} : Left H := { results := [], args := [] }

/-- 'laws.FnUndo': WHATEVER THE INPUT: true; the input reads as it did. -/
def fnUndoSpec : ChangeSpec := { name := "fnUndo", fn := fun _ => fun
  | [d] => { results := [.lit (.bool true)], args := [d] }
  | _ => none }
def fnUndoRow : OpenClaim := { program := "ytfeaeabhnkehcaa", sum := "51218ce6065df5d1d1880deee7679da8fa190849adbb6cbdf00ee195552ae85c", func := "loop.example/dualchoices/laws.FnUndo", spec := "fnUndo", inPlace := ["internal/bytealg.IndexByteString"], unfollowed := true, recurses := true, apart := false }
def FnUndoSaid : Prop := fnUndoRow.holds Try.pinned (OpenSpec.ofChange fnUndoSpec)

/-- ITS FALSE NEIGHBOUR: 'it returns false'. Refute it at one input. -/
def fnUndoWrong : ChangeSpec := { name := "fnUndo", fn := fun _ => fun
  | [d] => { results := [.lit (.bool false)], args := [d] }
  | _ => none }
def FnUndoWrongFalsely : Prop := fnUndoRow.holds Try.pinned (OpenSpec.ofChange fnUndoWrong)

/-- 'laws.FnBackward': WHATEVER THE INPUT: true; the input reads as it did. -/
def fnBackwardSpec : ChangeSpec := { name := "fnBackward", fn := fun _ => fun
  | [d] => { results := [.lit (.bool true)], args := [d] }
  | _ => none }
def fnBackwardRow : OpenClaim := { program := "ytfeaeabhnkehcaa", sum := "51218ce6065df5d1d1880deee7679da8fa190849adbb6cbdf00ee195552ae85c", func := "loop.example/dualchoices/laws.FnBackward", spec := "fnBackward", inPlace := ["internal/bytealg.IndexByteString"], unfollowed := true, recurses := true, apart := false }
def FnBackwardSaid : Prop := fnBackwardRow.holds Try.pinned (OpenSpec.ofChange fnBackwardSpec)

/-- ITS FALSE NEIGHBOUR: 'it returns false'. Refute it at one input. -/
def fnBackwardWrong : ChangeSpec := { name := "fnBackward", fn := fun _ => fun
  | [d] => { results := [.lit (.bool false)], args := [d] }
  | _ => none }
def FnBackwardWrongFalsely : Prop := fnBackwardRow.holds Try.pinned (OpenSpec.ofChange fnBackwardWrong)

/-- 'laws.FnDataSequence': WHATEVER THE INPUT: true; the input reads as it did. -/
def fnDataSequenceSpec : ChangeSpec := { name := "fnDataSequence", fn := fun _ => fun
  | [d1, d2] => { results := [.lit (.bool true)], args := [d1, d2] }
  | _ => none }
def fnDataSequenceRow : OpenClaim := { program := "ytfeaeabhnkehcaa", sum := "51218ce6065df5d1d1880deee7679da8fa190849adbb6cbdf00ee195552ae85c", func := "loop.example/dualchoices/laws.FnDataSequence", spec := "fnDataSequence", inPlace := ["internal/bytealg.IndexByteString"], unfollowed := true, recurses := true, apart := false }
def FnDataSequenceSaid : Prop := fnDataSequenceRow.holds Try.pinned (OpenSpec.ofChange fnDataSequenceSpec)

/-- ITS FALSE NEIGHBOUR: 'it returns false'. Refute it at one input. -/
def fnDataSequenceWrong : ChangeSpec := { name := "fnDataSequence", fn := fun _ => fun
  | [d1, d2] => { results := [.lit (.bool false)], args := [d1, d2] }
  | _ => none }
def FnDataSequenceWrongFalsely : Prop := fnDataSequenceRow.holds Try.pinned (OpenSpec.ofChange fnDataSequenceWrong)

/-- 'laws.FnForward': WHATEVER THE INPUT: true; the input reads as it did. -/
def fnForwardSpec : ChangeSpec := { name := "fnForward", fn := fun _ => fun
  | [d] => { results := [.lit (.bool true)], args := [d] }
  | _ => none }
def fnForwardRow : OpenClaim := { program := "ytfeaeabhnkehcaa", sum := "51218ce6065df5d1d1880deee7679da8fa190849adbb6cbdf00ee195552ae85c", func := "loop.example/dualchoices/laws.FnForward", spec := "fnForward", inPlace := ["internal/bytealg.IndexByteString"], unfollowed := true, recurses := true, apart := false }
def FnForwardSaid : Prop := fnForwardRow.holds Try.pinned (OpenSpec.ofChange fnForwardSpec)

/-- ITS FALSE NEIGHBOUR: 'it returns false'. Refute it at one input. -/
def fnForwardWrong : ChangeSpec := { name := "fnForward", fn := fun _ => fun
  | [d] => { results := [.lit (.bool false)], args := [d] }
  | _ => none }
def FnForwardWrongFalsely : Prop := fnForwardRow.holds Try.pinned (OpenSpec.ofChange fnForwardWrong)

/-- 'laws.FnDataBackward': WHATEVER THE INPUT: true; the input reads as it did. -/
def fnDataBackwardSpec : ChangeSpec := { name := "fnDataBackward", fn := fun _ => fun
  | [d1, d2] => { results := [.lit (.bool true)], args := [d1, d2] }
  | _ => none }
def fnDataBackwardRow : OpenClaim := { program := "ytfeaeabhnkehcaa", sum := "51218ce6065df5d1d1880deee7679da8fa190849adbb6cbdf00ee195552ae85c", func := "loop.example/dualchoices/laws.FnDataBackward", spec := "fnDataBackward", inPlace := ["internal/bytealg.IndexByteString"], unfollowed := true, recurses := true, apart := false }
def FnDataBackwardSaid : Prop := fnDataBackwardRow.holds Try.pinned (OpenSpec.ofChange fnDataBackwardSpec)

/-- ITS FALSE NEIGHBOUR: 'it returns false'. Refute it at one input. -/
def fnDataBackwardWrong : ChangeSpec := { name := "fnDataBackward", fn := fun _ => fun
  | [d1, d2] => { results := [.lit (.bool false)], args := [d1, d2] }
  | _ => none }
def FnDataBackwardWrongFalsely : Prop := fnDataBackwardRow.holds Try.pinned (OpenSpec.ofChange fnDataBackwardWrong)

/-- 'laws.FnViews': WHATEVER THE INPUT: true; the input reads as it did. -/
def fnViewsSpec : ChangeSpec := { name := "fnViews", fn := fun _ => fun
  | [d1, d2] => { results := [.lit (.bool true)], args := [d1, d2] }
  | _ => none }
def fnViewsRow : OpenClaim := { program := "ytfeaeabhnkehcaa", sum := "51218ce6065df5d1d1880deee7679da8fa190849adbb6cbdf00ee195552ae85c", func := "loop.example/dualchoices/laws.FnViews", spec := "fnViews", inPlace := ["internal/bytealg.IndexByteString"], unfollowed := true, recurses := true, apart := false }
def FnViewsSaid : Prop := fnViewsRow.holds Try.pinned (OpenSpec.ofChange fnViewsSpec)

/-- ITS FALSE NEIGHBOUR: 'it returns false'. Refute it at one input. -/
def fnViewsWrong : ChangeSpec := { name := "fnViews", fn := fun _ => fun
  | [d1, d2] => { results := [.lit (.bool false)], args := [d1, d2] }
  | _ => none }
def FnViewsWrongFalsely : Prop := fnViewsRow.holds Try.pinned (OpenSpec.ofChange fnViewsWrong)

/- THE SECOND FORM. 'bulk': how many values and letters a reading holds, each counted each time it is reached (what is shared counts as often as it is met; a slice's spare places count too). A statement '..UptoSaid' is the law's where the arguments, and the package variables that the reading takes, are together of bulk at most 1048576: NARROWER than '..Said'. Prove '..Said' where nothing that the law and all that it calls make is longer than what came in: it says more and counts as full. Else prove '..UptoSaid'. A law counts once. -/
mutual
def uptoBulk {H : Type} : DataW H → Nat
  | .lit (.string bytes) => bytes.length + 1
  | .lit _ => 1
  | .nil => 1
  | .ptr d => uptoBulk d + 1
  | .slice elems spare => uptoBulkAll elems + uptoBulkAll spare + 1
  | .agg parts => uptoBulkAll parts + 1
  | .iface _ d => uptoBulk d + 1
  | .map entries => uptoBulkEntries entries + 1
  | .held _ => 1
def uptoBulkAll {H : Type} : List (DataW H) → Nat
  | [] => 0
  | d :: r => uptoBulk d + uptoBulkAll r
def uptoBulkEntries {H : Type} : List (Lit × DataW H) → Nat
  | [] => 0
  | x :: r => uptoBulkEntry x + uptoBulkEntries r
def uptoBulkEntry {H : Type} : Lit × DataW H → Nat
  | (.string bytes, d) => bytes.length + uptoBulk d + 1
  | (_, d) => uptoBulk d + 1
 end
def uptoSmall : (H : Type) → List (DataW H) → Bool := fun _ ds => decide (uptoBulkAll ds ≤ 1048576)
def OpenSpec.upto (s : _root_.Go.ChangeSpec) : _root_.Go.OpenSpec := { _root_.Go.OpenSpec.ofChange s with cond := some uptoSmall }

/-- 'laws.FnUndo', WHERE WHAT IT READS IS OF BULK AT MOST 1048576: true; the input reads as it did. -/
def fnUndoUptoRow : OpenClaim := { program := "ytfeaeabhnkehcaa", sum := "51218ce6065df5d1d1880deee7679da8fa190849adbb6cbdf00ee195552ae85c", func := "loop.example/dualchoices/laws.FnUndo", spec := "fnUndo", inPlace := ["internal/bytealg.IndexByteString"], unfollowed := true, recurses := true, apart := false, narrowed := true }
def FnUndoUptoSaid : Prop := fnUndoUptoRow.holds Try.pinned (OpenSpec.upto fnUndoSpec)

/-- 'laws.FnBackward', WHERE WHAT IT READS IS OF BULK AT MOST 1048576: true; the input reads as it did. -/
def fnBackwardUptoRow : OpenClaim := { program := "ytfeaeabhnkehcaa", sum := "51218ce6065df5d1d1880deee7679da8fa190849adbb6cbdf00ee195552ae85c", func := "loop.example/dualchoices/laws.FnBackward", spec := "fnBackward", inPlace := ["internal/bytealg.IndexByteString"], unfollowed := true, recurses := true, apart := false, narrowed := true }
def FnBackwardUptoSaid : Prop := fnBackwardUptoRow.holds Try.pinned (OpenSpec.upto fnBackwardSpec)

/-- 'laws.FnDataSequence', WHERE WHAT IT READS IS OF BULK AT MOST 1048576: true; the input reads as it did. -/
def fnDataSequenceUptoRow : OpenClaim := { program := "ytfeaeabhnkehcaa", sum := "51218ce6065df5d1d1880deee7679da8fa190849adbb6cbdf00ee195552ae85c", func := "loop.example/dualchoices/laws.FnDataSequence", spec := "fnDataSequence", inPlace := ["internal/bytealg.IndexByteString"], unfollowed := true, recurses := true, apart := false, narrowed := true }
def FnDataSequenceUptoSaid : Prop := fnDataSequenceUptoRow.holds Try.pinned (OpenSpec.upto fnDataSequenceSpec)

/-- 'laws.FnForward', WHERE WHAT IT READS IS OF BULK AT MOST 1048576: true; the input reads as it did. -/
def fnForwardUptoRow : OpenClaim := { program := "ytfeaeabhnkehcaa", sum := "51218ce6065df5d1d1880deee7679da8fa190849adbb6cbdf00ee195552ae85c", func := "loop.example/dualchoices/laws.FnForward", spec := "fnForward", inPlace := ["internal/bytealg.IndexByteString"], unfollowed := true, recurses := true, apart := false, narrowed := true }
def FnForwardUptoSaid : Prop := fnForwardUptoRow.holds Try.pinned (OpenSpec.upto fnForwardSpec)

/-- 'laws.FnDataBackward', WHERE WHAT IT READS IS OF BULK AT MOST 1048576: true; the input reads as it did. -/
def fnDataBackwardUptoRow : OpenClaim := { program := "ytfeaeabhnkehcaa", sum := "51218ce6065df5d1d1880deee7679da8fa190849adbb6cbdf00ee195552ae85c", func := "loop.example/dualchoices/laws.FnDataBackward", spec := "fnDataBackward", inPlace := ["internal/bytealg.IndexByteString"], unfollowed := true, recurses := true, apart := false, narrowed := true }
def FnDataBackwardUptoSaid : Prop := fnDataBackwardUptoRow.holds Try.pinned (OpenSpec.upto fnDataBackwardSpec)

/-- 'laws.FnViews', WHERE WHAT IT READS IS OF BULK AT MOST 1048576: true; the input reads as it did. -/
def fnViewsUptoRow : OpenClaim := { program := "ytfeaeabhnkehcaa", sum := "51218ce6065df5d1d1880deee7679da8fa190849adbb6cbdf00ee195552ae85c", func := "loop.example/dualchoices/laws.FnViews", spec := "fnViews", inPlace := ["internal/bytealg.IndexByteString"], unfollowed := true, recurses := true, apart := false, narrowed := true }
def FnViewsUptoSaid : Prop := fnViewsUptoRow.holds Try.pinned (OpenSpec.upto fnViewsSpec)

end Rows
end Go.Proofs.Ytfeaeabhnkehcaa
