/-
  No cell of these rows narrows 'for every input' (looked for: loops, veiled, ifaces, maps, wideKeys, modest, calm, conditions, laid).
  DERIVED. THE GIVEN ROWS OF THIS SEAT. 4 by the template 'for every input the law returns true; each argument reads behind the call as it read before'; 0 by the template 'total and deterministic' (their statements: YtpgpfdlbklccdaaTotals.lean).
  GIVEN WITH THE SEED: the statements are not yours to turn. If you find one false, say at which input.
  Laid BY PROGRAM, IN A SANDBOX (cutbox-rows.mjs): the forced cells as the released guide's own fill.sh prints them over the translation 2eed97c537efb770… (all of the seat's roots in one cut). By AI agents, Wed Nov 11 2026. No macro, syntax, notation, axiom, sorry.
-/
import Derived.Test.YtpgpfdlbklccdaaChecked
import GoSem.Claim
import GoSem.ClaimJoined
import GoSem.ClaimMapViews
import Derived.JoinedTies
import Derived.KernelRfl
namespace Go.Proofs.Ytpgpfdlbklccdaa
/- THE CELL 'sum', in the pinned program and in every row, IS THE sha256 OF THE DUMP (.gsa) THAT YtpgpfdlbklccdaaProg.lean LOADS. Nothing in Lean hashes anything: it is a label: what it is worth is what the hold of that sum in a sandbox is worth. -/
noncomputable def Try.pinned : Pinned := { name := "ytpgpfdlbklccdaa", sum := "2eed97c537efb7703902f185f534b7578619de22d42149781231ff591ec872f0", checked := Try.checked }
namespace Rows
def none {H : Type} : Left H := { results := [], args := [] }

/-- 'laws.FnExactConcreteCondition': WHATEVER THE INPUT: true; the input reads as it did. -/
def fnExactConcreteConditionSpec : ChangeSpec := { name := "fnExactConcreteCondition", fn := fun _ => fun
  | [d1, d2] => { results := [.lit (.bool true)], args := [d1, d2] }
  | _ => none }
def fnExactConcreteConditionRow : OpenClaim := { program := "ytpgpfdlbklccdaa", sum := "2eed97c537efb7703902f185f534b7578619de22d42149781231ff591ec872f0", func := "loop.example/dualchoices/laws.FnExactConcreteCondition", spec := "fnExactConcreteCondition", inPlace := ["internal/bytealg.IndexByteString"], unfollowed := true, recurses := true, apart := false }
def FnExactConcreteConditionSaid : Prop := fnExactConcreteConditionRow.holds Try.pinned (OpenSpec.ofChange fnExactConcreteConditionSpec)

/-- ITS FALSE NEIGHBOUR: 'it returns false'. Refute it at one input. -/
def fnExactConcreteConditionWrong : ChangeSpec := { name := "fnExactConcreteCondition", fn := fun _ => fun
  | [d1, d2] => { results := [.lit (.bool false)], args := [d1, d2] }
  | _ => none }
def FnExactConcreteConditionWrongFalsely : Prop := fnExactConcreteConditionRow.holds Try.pinned (OpenSpec.ofChange fnExactConcreteConditionWrong)

/-- 'laws.FnExactComposeViews': WHATEVER THE INPUT: true; the input reads as it did. -/
def fnExactComposeViewsSpec : ChangeSpec := { name := "fnExactComposeViews", fn := fun _ => fun
  | [d1, d2] => { results := [.lit (.bool true)], args := [d1, d2] }
  | _ => none }
def fnExactComposeViewsRow : OpenClaim := { program := "ytpgpfdlbklccdaa", sum := "2eed97c537efb7703902f185f534b7578619de22d42149781231ff591ec872f0", func := "loop.example/dualchoices/laws.FnExactComposeViews", spec := "fnExactComposeViews", inPlace := ["internal/bytealg.IndexByteString"], unfollowed := true, recurses := true, apart := false }
def FnExactComposeViewsSaid : Prop := fnExactComposeViewsRow.holds Try.pinned (OpenSpec.ofChange fnExactComposeViewsSpec)

/-- ITS FALSE NEIGHBOUR: 'it returns false'. Refute it at one input. -/
def fnExactComposeViewsWrong : ChangeSpec := { name := "fnExactComposeViews", fn := fun _ => fun
  | [d1, d2] => { results := [.lit (.bool false)], args := [d1, d2] }
  | _ => none }
def FnExactComposeViewsWrongFalsely : Prop := fnExactComposeViewsRow.holds Try.pinned (OpenSpec.ofChange fnExactComposeViewsWrong)

/-- 'laws.FnExactAbstractCondition': WHATEVER THE INPUT: true; the input reads as it did. -/
def fnExactAbstractConditionSpec : ChangeSpec := { name := "fnExactAbstractCondition", fn := fun _ => fun
  | [d1, d2] => { results := [.lit (.bool true)], args := [d1, d2] }
  | _ => none }
def fnExactAbstractConditionRow : OpenClaim := { program := "ytpgpfdlbklccdaa", sum := "2eed97c537efb7703902f185f534b7578619de22d42149781231ff591ec872f0", func := "loop.example/dualchoices/laws.FnExactAbstractCondition", spec := "fnExactAbstractCondition", inPlace := ["internal/bytealg.IndexByteString"], unfollowed := true, recurses := true, apart := false }
def FnExactAbstractConditionSaid : Prop := fnExactAbstractConditionRow.holds Try.pinned (OpenSpec.ofChange fnExactAbstractConditionSpec)

/-- ITS FALSE NEIGHBOUR: 'it returns false'. Refute it at one input. -/
def fnExactAbstractConditionWrong : ChangeSpec := { name := "fnExactAbstractCondition", fn := fun _ => fun
  | [d1, d2] => { results := [.lit (.bool false)], args := [d1, d2] }
  | _ => none }
def FnExactAbstractConditionWrongFalsely : Prop := fnExactAbstractConditionRow.holds Try.pinned (OpenSpec.ofChange fnExactAbstractConditionWrong)

/-- 'laws.FnExactSimulatesForward': WHATEVER THE INPUT: true; the input reads as it did. -/
def fnExactSimulatesForwardSpec : ChangeSpec := { name := "fnExactSimulatesForward", fn := fun _ => fun
  | [d1, d2, d3] => { results := [.lit (.bool true)], args := [d1, d2, d3] }
  | _ => none }
def fnExactSimulatesForwardRow : OpenClaim := { program := "ytpgpfdlbklccdaa", sum := "2eed97c537efb7703902f185f534b7578619de22d42149781231ff591ec872f0", func := "loop.example/dualchoices/laws.FnExactSimulatesForward", spec := "fnExactSimulatesForward", inPlace := ["internal/bytealg.IndexByteString"], unfollowed := true, recurses := true, apart := false }
def FnExactSimulatesForwardSaid : Prop := fnExactSimulatesForwardRow.holds Try.pinned (OpenSpec.ofChange fnExactSimulatesForwardSpec)

/-- ITS FALSE NEIGHBOUR: 'it returns false'. Refute it at one input. -/
def fnExactSimulatesForwardWrong : ChangeSpec := { name := "fnExactSimulatesForward", fn := fun _ => fun
  | [d1, d2, d3] => { results := [.lit (.bool false)], args := [d1, d2, d3] }
  | _ => none }
def FnExactSimulatesForwardWrongFalsely : Prop := fnExactSimulatesForwardRow.holds Try.pinned (OpenSpec.ofChange fnExactSimulatesForwardWrong)

/- THE SECOND FORM. 'bulk': how many values and letters a reading holds, each counted each time it is reached (what is shared counts as often as it is met; a slice's spare places count too). A statement '..UptoSaid' is the law's where the arguments, and the package variables that the reading takes, are together of bulk at most 1048576: NARROWER than '..Said'. Prove '..Said' where nothing that the law and all that it calls make is longer than what came in: it says more and counts as full. Else prove '..UptoSaid'. A law counts once. -/
mutual
def uptoBulk {H : Type} : DataW H → Nat
  | .lit (.string bytes) => bytes.length + 1
  | .lit _ => 1
  | .nil => 1
  | .ptr d => uptoBulk d + 1
  | .slice elems spare => uptoBulkAll elems + uptoBulkAll spare + 1
  | .agg parts => uptoBulkAll parts + 1
  | .iface _ d => uptoBulk d + 1
  | .map entries => uptoBulkEntries entries + 1
  | .held _ => 1
def uptoBulkAll {H : Type} : List (DataW H) → Nat
  | [] => 0
  | d :: r => uptoBulk d + uptoBulkAll r
def uptoBulkEntries {H : Type} : List (Lit × DataW H) → Nat
  | [] => 0
  | x :: r => uptoBulkEntry x + uptoBulkEntries r
def uptoBulkEntry {H : Type} : Lit × DataW H → Nat
  | (.string bytes, d) => bytes.length + uptoBulk d + 1
  | (_, d) => uptoBulk d + 1
 end
def uptoSmall : (H : Type) → List (DataW H) → Bool := fun _ ds => decide (uptoBulkAll ds ≤ 1048576)
def OpenSpec.upto (s : _root_.Go.ChangeSpec) : _root_.Go.OpenSpec := { _root_.Go.OpenSpec.ofChange s with cond := some uptoSmall }

/-- 'laws.FnExactConcreteCondition', WHERE WHAT IT READS IS OF BULK AT MOST 1048576: true; the input reads as it did. -/
def fnExactConcreteConditionUptoRow : OpenClaim := { program := "ytpgpfdlbklccdaa", sum := "2eed97c537efb7703902f185f534b7578619de22d42149781231ff591ec872f0", func := "loop.example/dualchoices/laws.FnExactConcreteCondition", spec := "fnExactConcreteCondition", inPlace := ["internal/bytealg.IndexByteString"], unfollowed := true, recurses := true, apart := false, narrowed := true }
def FnExactConcreteConditionUptoSaid : Prop := fnExactConcreteConditionUptoRow.holds Try.pinned (OpenSpec.upto fnExactConcreteConditionSpec)

/-- 'laws.FnExactComposeViews', WHERE WHAT IT READS IS OF BULK AT MOST 1048576: true; the input reads as it did. -/
def fnExactComposeViewsUptoRow : OpenClaim := { program := "ytpgpfdlbklccdaa", sum := "2eed97c537efb7703902f185f534b7578619de22d42149781231ff591ec872f0", func := "loop.example/dualchoices/laws.FnExactComposeViews", spec := "fnExactComposeViews", inPlace := ["internal/bytealg.IndexByteString"], unfollowed := true, recurses := true, apart := false, narrowed := true }
def FnExactComposeViewsUptoSaid : Prop := fnExactComposeViewsUptoRow.holds Try.pinned (OpenSpec.upto fnExactComposeViewsSpec)

/-- 'laws.FnExactAbstractCondition', WHERE WHAT IT READS IS OF BULK AT MOST 1048576: true; the input reads as it did. -/
def fnExactAbstractConditionUptoRow : OpenClaim := { program := "ytpgpfdlbklccdaa", sum := "2eed97c537efb7703902f185f534b7578619de22d42149781231ff591ec872f0", func := "loop.example/dualchoices/laws.FnExactAbstractCondition", spec := "fnExactAbstractCondition", inPlace := ["internal/bytealg.IndexByteString"], unfollowed := true, recurses := true, apart := false, narrowed := true }
def FnExactAbstractConditionUptoSaid : Prop := fnExactAbstractConditionUptoRow.holds Try.pinned (OpenSpec.upto fnExactAbstractConditionSpec)

/-- 'laws.FnExactSimulatesForward', WHERE WHAT IT READS IS OF BULK AT MOST 1048576: true; the input reads as it did. -/
def fnExactSimulatesForwardUptoRow : OpenClaim := { program := "ytpgpfdlbklccdaa", sum := "2eed97c537efb7703902f185f534b7578619de22d42149781231ff591ec872f0", func := "loop.example/dualchoices/laws.FnExactSimulatesForward", spec := "fnExactSimulatesForward", inPlace := ["internal/bytealg.IndexByteString"], unfollowed := true, recurses := true, apart := false, narrowed := true }
def FnExactSimulatesForwardUptoSaid : Prop := fnExactSimulatesForwardUptoRow.holds Try.pinned (OpenSpec.upto fnExactSimulatesForwardSpec)

end Rows
end Go.Proofs.Ytpgpfdlbklccdaa
