/-
  No cell of these rows narrows 'for every input' (looked for: loops, veiled, ifaces, maps, wideKeys, modest, calm, conditions, laid).
  DERIVED. THE GIVEN ROWS OF THIS SEAT. 6 by the template 'for every input the law returns true; each argument reads behind the call as it read before'; 0 by the template 'total and deterministic' (their statements: YtildffhpepgjmaaTotals.lean).
  GIVEN WITH THE SEED: the statements are not yours to turn. If you find one false, say at which input.
  Laid BY PROGRAM, IN A SANDBOX (cutbox-rows.mjs): the forced cells as the released guide's own fill.sh prints them over the translation b181ad62e153b702… (all of the seat's roots in one cut). By AI agents, Wed Nov 11 2026. No macro, syntax, notation, axiom, sorry.
-/
import Derived.Test.YtildffhpepgjmaaChecked
import GoSem.Claim
import GoSem.ClaimJoined
import GoSem.ClaimMapViews
import Derived.JoinedTies
import Derived.KernelRfl
namespace Go.Proofs.Ytildffhpepgjmaa
/- THE CELL 'sum', in the pinned program and in every row, IS THE sha256 OF THE DUMP (.gsa) THAT YtildffhpepgjmaaProg.lean LOADS. Nothing in Lean hashes anything: it is a label: what it is worth is what the hold of that sum in a sandbox is worth. -/
noncomputable def Try.pinned : Pinned := { name := "ytildffhpepgjmaa", sum := "b181ad62e153b702e7f479933985c74ca33511f07789e215990fc743d6b568a0", checked := Try.checked }
namespace Rows
def none {H : Type} : Left H := { results := [], args := [] }

/-- 'laws.FnDataConditions': WHATEVER THE INPUT: true; the input reads as it did. -/
def fnDataConditionsSpec : ChangeSpec := { name := "fnDataConditions", fn := fun _ => fun
  | [d1, d2] => { results := [.lit (.bool true)], args := [d1, d2] }
  | _ => none }
def fnDataConditionsRow : OpenClaim := { program := "ytildffhpepgjmaa", sum := "b181ad62e153b702e7f479933985c74ca33511f07789e215990fc743d6b568a0", func := "loop.example/dualchoices/laws.FnDataConditions", spec := "fnDataConditions", inPlace := ["internal/bytealg.IndexByteString"], unfollowed := true, recurses := true, apart := false }
def FnDataConditionsSaid : Prop := fnDataConditionsRow.holds Try.pinned (OpenSpec.ofChange fnDataConditionsSpec)

/-- ITS FALSE NEIGHBOUR: 'it returns false'. Refute it at one input. -/
def fnDataConditionsWrong : ChangeSpec := { name := "fnDataConditions", fn := fun _ => fun
  | [d1, d2] => { results := [.lit (.bool false)], args := [d1, d2] }
  | _ => none }
def FnDataConditionsWrongFalsely : Prop := fnDataConditionsRow.holds Try.pinned (OpenSpec.ofChange fnDataConditionsWrong)

/-- 'laws.FnResidualSequence': WHATEVER THE INPUT: true; the input reads as it did. -/
def fnResidualSequenceSpec : ChangeSpec := { name := "fnResidualSequence", fn := fun _ => fun
  | [d1, d2] => { results := [.lit (.bool true)], args := [d1, d2] }
  | _ => none }
def fnResidualSequenceRow : OpenClaim := { program := "ytildffhpepgjmaa", sum := "b181ad62e153b702e7f479933985c74ca33511f07789e215990fc743d6b568a0", func := "loop.example/dualchoices/laws.FnResidualSequence", spec := "fnResidualSequence", inPlace := ["internal/bytealg.IndexByteString"], unfollowed := true, recurses := true, apart := false }
def FnResidualSequenceSaid : Prop := fnResidualSequenceRow.holds Try.pinned (OpenSpec.ofChange fnResidualSequenceSpec)

/-- ITS FALSE NEIGHBOUR: 'it returns false'. Refute it at one input. -/
def fnResidualSequenceWrong : ChangeSpec := { name := "fnResidualSequence", fn := fun _ => fun
  | [d1, d2] => { results := [.lit (.bool false)], args := [d1, d2] }
  | _ => none }
def FnResidualSequenceWrongFalsely : Prop := fnResidualSequenceRow.holds Try.pinned (OpenSpec.ofChange fnResidualSequenceWrong)

/-- 'laws.FnBeforeMost': WHATEVER THE INPUT: true; the input reads as it did. -/
def fnBeforeMostSpec : ChangeSpec := { name := "fnBeforeMost", fn := fun _ => fun
  | [d1, d2] => { results := [.lit (.bool true)], args := [d1, d2] }
  | _ => none }
def fnBeforeMostRow : OpenClaim := { program := "ytildffhpepgjmaa", sum := "b181ad62e153b702e7f479933985c74ca33511f07789e215990fc743d6b568a0", func := "loop.example/dualchoices/laws.FnBeforeMost", spec := "fnBeforeMost", inPlace := ["internal/bytealg.IndexByteString"], unfollowed := true, recurses := true, apart := false }
def FnBeforeMostSaid : Prop := fnBeforeMostRow.holds Try.pinned (OpenSpec.ofChange fnBeforeMostSpec)

/-- ITS FALSE NEIGHBOUR: 'it returns false'. Refute it at one input. -/
def fnBeforeMostWrong : ChangeSpec := { name := "fnBeforeMost", fn := fun _ => fun
  | [d1, d2] => { results := [.lit (.bool false)], args := [d1, d2] }
  | _ => none }
def FnBeforeMostWrongFalsely : Prop := fnBeforeMostRow.holds Try.pinned (OpenSpec.ofChange fnBeforeMostWrong)

/-- 'laws.FnBeforeLeast': WHATEVER THE INPUT: true; the input reads as it did. -/
def fnBeforeLeastSpec : ChangeSpec := { name := "fnBeforeLeast", fn := fun _ => fun
  | [d1, d2] => { results := [.lit (.bool true)], args := [d1, d2] }
  | _ => none }
def fnBeforeLeastRow : OpenClaim := { program := "ytildffhpepgjmaa", sum := "b181ad62e153b702e7f479933985c74ca33511f07789e215990fc743d6b568a0", func := "loop.example/dualchoices/laws.FnBeforeLeast", spec := "fnBeforeLeast", inPlace := ["internal/bytealg.IndexByteString"], unfollowed := true, recurses := true, apart := false }
def FnBeforeLeastSaid : Prop := fnBeforeLeastRow.holds Try.pinned (OpenSpec.ofChange fnBeforeLeastSpec)

/-- ITS FALSE NEIGHBOUR: 'it returns false'. Refute it at one input. -/
def fnBeforeLeastWrong : ChangeSpec := { name := "fnBeforeLeast", fn := fun _ => fun
  | [d1, d2] => { results := [.lit (.bool false)], args := [d1, d2] }
  | _ => none }
def FnBeforeLeastWrongFalsely : Prop := fnBeforeLeastRow.holds Try.pinned (OpenSpec.ofChange fnBeforeLeastWrong)

/-- 'laws.FnBeside': WHATEVER THE INPUT: true; the input reads as it did. -/
def fnBesideSpec : ChangeSpec := { name := "fnBeside", fn := fun _ => fun
  | [d1, d2] => { results := [.lit (.bool true)], args := [d1, d2] }
  | _ => none }
def fnBesideRow : OpenClaim := { program := "ytildffhpepgjmaa", sum := "b181ad62e153b702e7f479933985c74ca33511f07789e215990fc743d6b568a0", func := "loop.example/dualchoices/laws.FnBeside", spec := "fnBeside", inPlace := ["internal/bytealg.IndexByteString"], unfollowed := true, recurses := true, apart := false }
def FnBesideSaid : Prop := fnBesideRow.holds Try.pinned (OpenSpec.ofChange fnBesideSpec)

/-- ITS FALSE NEIGHBOUR: 'it returns false'. Refute it at one input. -/
def fnBesideWrong : ChangeSpec := { name := "fnBeside", fn := fun _ => fun
  | [d1, d2] => { results := [.lit (.bool false)], args := [d1, d2] }
  | _ => none }
def FnBesideWrongFalsely : Prop := fnBesideRow.holds Try.pinned (OpenSpec.ofChange fnBesideWrong)

/-- 'laws.FnBehind': WHATEVER THE INPUT: true; the input reads as it did. -/
def fnBehindSpec : ChangeSpec := { name := "fnBehind", fn := fun _ => fun
  | [d1, d2] => { results := [.lit (.bool true)], args := [d1, d2] }
  | _ => none }
def fnBehindRow : OpenClaim := { program := "ytildffhpepgjmaa", sum := "b181ad62e153b702e7f479933985c74ca33511f07789e215990fc743d6b568a0", func := "loop.example/dualchoices/laws.FnBehind", spec := "fnBehind", inPlace := ["internal/bytealg.IndexByteString"], unfollowed := true, recurses := true, apart := false }
def FnBehindSaid : Prop := fnBehindRow.holds Try.pinned (OpenSpec.ofChange fnBehindSpec)

/-- ITS FALSE NEIGHBOUR: 'it returns false'. Refute it at one input. -/
def fnBehindWrong : ChangeSpec := { name := "fnBehind", fn := fun _ => fun
  | [d1, d2] => { results := [.lit (.bool false)], args := [d1, d2] }
  | _ => none }
def FnBehindWrongFalsely : Prop := fnBehindRow.holds Try.pinned (OpenSpec.ofChange fnBehindWrong)

/- THE SECOND FORM. 'bulk': how many values and letters a reading holds, each counted each time it is reached (what is shared counts as often as it is met; a slice's spare places count too). A statement '..UptoSaid' is the law's where the arguments, and the package variables that the reading takes, are together of bulk at most 1048576: NARROWER than '..Said'. Prove '..Said' where nothing that the law and all that it calls make is longer than what came in: it says more and counts as full. Else prove '..UptoSaid'. A law counts once. -/
mutual
def uptoBulk {H : Type} : DataW H → Nat
  | .lit (.string bytes) => bytes.length + 1
  | .lit _ => 1
  | .nil => 1
  | .ptr d => uptoBulk d + 1
  | .slice elems spare => uptoBulkAll elems + uptoBulkAll spare + 1
  | .agg parts => uptoBulkAll parts + 1
  | .iface _ d => uptoBulk d + 1
  | .map entries => uptoBulkEntries entries + 1
  | .held _ => 1
def uptoBulkAll {H : Type} : List (DataW H) → Nat
  | [] => 0
  | d :: r => uptoBulk d + uptoBulkAll r
def uptoBulkEntries {H : Type} : List (Lit × DataW H) → Nat
  | [] => 0
  | x :: r => uptoBulkEntry x + uptoBulkEntries r
def uptoBulkEntry {H : Type} : Lit × DataW H → Nat
  | (.string bytes, d) => bytes.length + uptoBulk d + 1
  | (_, d) => uptoBulk d + 1
 end
def uptoSmall : (H : Type) → List (DataW H) → Bool := fun _ ds => decide (uptoBulkAll ds ≤ 1048576)
def OpenSpec.upto (s : _root_.Go.ChangeSpec) : _root_.Go.OpenSpec := { _root_.Go.OpenSpec.ofChange s with cond := some uptoSmall }

/-- 'laws.FnDataConditions', WHERE WHAT IT READS IS OF BULK AT MOST 1048576: true; the input reads as it did. -/
def fnDataConditionsUptoRow : OpenClaim := { program := "ytildffhpepgjmaa", sum := "b181ad62e153b702e7f479933985c74ca33511f07789e215990fc743d6b568a0", func := "loop.example/dualchoices/laws.FnDataConditions", spec := "fnDataConditions", inPlace := ["internal/bytealg.IndexByteString"], unfollowed := true, recurses := true, apart := false, narrowed := true }
def FnDataConditionsUptoSaid : Prop := fnDataConditionsUptoRow.holds Try.pinned (OpenSpec.upto fnDataConditionsSpec)

/-- 'laws.FnResidualSequence', WHERE WHAT IT READS IS OF BULK AT MOST 1048576: true; the input reads as it did. -/
def fnResidualSequenceUptoRow : OpenClaim := { program := "ytildffhpepgjmaa", sum := "b181ad62e153b702e7f479933985c74ca33511f07789e215990fc743d6b568a0", func := "loop.example/dualchoices/laws.FnResidualSequence", spec := "fnResidualSequence", inPlace := ["internal/bytealg.IndexByteString"], unfollowed := true, recurses := true, apart := false, narrowed := true }
def FnResidualSequenceUptoSaid : Prop := fnResidualSequenceUptoRow.holds Try.pinned (OpenSpec.upto fnResidualSequenceSpec)

/-- 'laws.FnBeforeMost', WHERE WHAT IT READS IS OF BULK AT MOST 1048576: true; the input reads as it did. -/
def fnBeforeMostUptoRow : OpenClaim := { program := "ytildffhpepgjmaa", sum := "b181ad62e153b702e7f479933985c74ca33511f07789e215990fc743d6b568a0", func := "loop.example/dualchoices/laws.FnBeforeMost", spec := "fnBeforeMost", inPlace := ["internal/bytealg.IndexByteString"], unfollowed := true, recurses := true, apart := false, narrowed := true }
def FnBeforeMostUptoSaid : Prop := fnBeforeMostUptoRow.holds Try.pinned (OpenSpec.upto fnBeforeMostSpec)

/-- 'laws.FnBeforeLeast', WHERE WHAT IT READS IS OF BULK AT MOST 1048576: true; the input reads as it did. -/
def fnBeforeLeastUptoRow : OpenClaim := { program := "ytildffhpepgjmaa", sum := "b181ad62e153b702e7f479933985c74ca33511f07789e215990fc743d6b568a0", func := "loop.example/dualchoices/laws.FnBeforeLeast", spec := "fnBeforeLeast", inPlace := ["internal/bytealg.IndexByteString"], unfollowed := true, recurses := true, apart := false, narrowed := true }
def FnBeforeLeastUptoSaid : Prop := fnBeforeLeastUptoRow.holds Try.pinned (OpenSpec.upto fnBeforeLeastSpec)

/-- 'laws.FnBeside', WHERE WHAT IT READS IS OF BULK AT MOST 1048576: true; the input reads as it did. -/
def fnBesideUptoRow : OpenClaim := { program := "ytildffhpepgjmaa", sum := "b181ad62e153b702e7f479933985c74ca33511f07789e215990fc743d6b568a0", func := "loop.example/dualchoices/laws.FnBeside", spec := "fnBeside", inPlace := ["internal/bytealg.IndexByteString"], unfollowed := true, recurses := true, apart := false, narrowed := true }
def FnBesideUptoSaid : Prop := fnBesideUptoRow.holds Try.pinned (OpenSpec.upto fnBesideSpec)

/-- 'laws.FnBehind', WHERE WHAT IT READS IS OF BULK AT MOST 1048576: true; the input reads as it did. -/
def fnBehindUptoRow : OpenClaim := { program := "ytildffhpepgjmaa", sum := "b181ad62e153b702e7f479933985c74ca33511f07789e215990fc743d6b568a0", func := "loop.example/dualchoices/laws.FnBehind", spec := "fnBehind", inPlace := ["internal/bytealg.IndexByteString"], unfollowed := true, recurses := true, apart := false, narrowed := true }
def FnBehindUptoSaid : Prop := fnBehindUptoRow.holds Try.pinned (OpenSpec.upto fnBehindSpec)

end Rows
end Go.Proofs.Ytildffhpepgjmaa
