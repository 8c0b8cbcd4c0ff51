/-
  No cell of these rows narrows 'for every input' (looked for: loops, veiled, ifaces, maps, wideKeys, modest, calm, conditions, laid).
  DERIVED. THE GIVEN ROWS OF THIS SEAT. 2 by the template 'for every input the law returns true; each argument reads behind the call as it read before'; 0 by the template 'total and deterministic' (their statements: YtlmpnbmifcelkaaTotals.lean).
  GIVEN WITH THE SEED: the statements are not yours to turn. If you find one false, say at which input.
  Laid BY PROGRAM, IN A SANDBOX (cutbox-rows.mjs): the forced cells as the released guide's own fill.sh prints them over the translation b9271ff7c951d066… (all of the seat's roots in one cut). By AI agents, Wed Nov 11 2026. No macro, syntax, notation, axiom, sorry.
-/
import Derived.Test.YtlmpnbmifcelkaaChecked
import GoSem.Claim
import GoSem.ClaimJoined
import GoSem.ClaimMapViews
import Derived.JoinedTies
import Derived.KernelRfl
namespace Go.Proofs.Ytlmpnbmifcelkaa
/- THE CELL 'sum', in the pinned program and in every row, IS THE sha256 OF THE DUMP (.gsa) THAT YtlmpnbmifcelkaaProg.lean LOADS. Nothing in Lean hashes anything: it is a label: what it is worth is what the hold of that sum in a sandbox is worth. -/
noncomputable def Try.pinned : Pinned := { name := "ytlmpnbmifcelkaa", sum := "b9271ff7c951d066b2fef274395cca1e5086b81d2c34ced2d2d0e423f30b186e", checked := Try.checked }
namespace Rows
def none {H : Type} : Left H := { results := [], args := [] }

/-- 'laws.FnExactBesideAngel': WHATEVER THE INPUT: true; the input reads as it did. -/
def fnExactBesideAngelSpec : ChangeSpec := { name := "fnExactBesideAngel", fn := fun _ => fun
  | [d1, d2] => { results := [.lit (.bool true)], args := [d1, d2] }
  | _ => none }
def fnExactBesideAngelRow : OpenClaim := { program := "ytlmpnbmifcelkaa", sum := "b9271ff7c951d066b2fef274395cca1e5086b81d2c34ced2d2d0e423f30b186e", func := "loop.example/dualchoices/laws.FnExactBesideAngel", spec := "fnExactBesideAngel", inPlace := ["internal/bytealg.IndexByteString"], unfollowed := true, recurses := true, apart := false }
def FnExactBesideAngelSaid : Prop := fnExactBesideAngelRow.holds Try.pinned (OpenSpec.ofChange fnExactBesideAngelSpec)

/-- ITS FALSE NEIGHBOUR: 'it returns false'. Refute it at one input. -/
def fnExactBesideAngelWrong : ChangeSpec := { name := "fnExactBesideAngel", fn := fun _ => fun
  | [d1, d2] => { results := [.lit (.bool false)], args := [d1, d2] }
  | _ => none }
def FnExactBesideAngelWrongFalsely : Prop := fnExactBesideAngelRow.holds Try.pinned (OpenSpec.ofChange fnExactBesideAngelWrong)

/-- 'laws.FnExactBesideDemon': WHATEVER THE INPUT: true; the input reads as it did. -/
def fnExactBesideDemonSpec : ChangeSpec := { name := "fnExactBesideDemon", fn := fun _ => fun
  | [d1, d2] => { results := [.lit (.bool true)], args := [d1, d2] }
  | _ => none }
def fnExactBesideDemonRow : OpenClaim := { program := "ytlmpnbmifcelkaa", sum := "b9271ff7c951d066b2fef274395cca1e5086b81d2c34ced2d2d0e423f30b186e", func := "loop.example/dualchoices/laws.FnExactBesideDemon", spec := "fnExactBesideDemon", inPlace := ["internal/bytealg.IndexByteString"], unfollowed := true, recurses := true, apart := false }
def FnExactBesideDemonSaid : Prop := fnExactBesideDemonRow.holds Try.pinned (OpenSpec.ofChange fnExactBesideDemonSpec)

/-- ITS FALSE NEIGHBOUR: 'it returns false'. Refute it at one input. -/
def fnExactBesideDemonWrong : ChangeSpec := { name := "fnExactBesideDemon", fn := fun _ => fun
  | [d1, d2] => { results := [.lit (.bool false)], args := [d1, d2] }
  | _ => none }
def FnExactBesideDemonWrongFalsely : Prop := fnExactBesideDemonRow.holds Try.pinned (OpenSpec.ofChange fnExactBesideDemonWrong)

/- THE SECOND FORM. 'bulk': how many values and letters a reading holds, each counted each time it is reached (what is shared counts as often as it is met; a slice's spare places count too). A statement '..UptoSaid' is the law's where the arguments, and the package variables that the reading takes, are together of bulk at most 1048576: NARROWER than '..Said'. Prove '..Said' where nothing that the law and all that it calls make is longer than what came in: it says more and counts as full. Else prove '..UptoSaid'. A law counts once. -/
mutual
def uptoBulk {H : Type} : DataW H → Nat
  | .lit (.string bytes) => bytes.length + 1
  | .lit _ => 1
  | .nil => 1
  | .ptr d => uptoBulk d + 1
  | .slice elems spare => uptoBulkAll elems + uptoBulkAll spare + 1
  | .agg parts => uptoBulkAll parts + 1
  | .iface _ d => uptoBulk d + 1
  | .map entries => uptoBulkEntries entries + 1
  | .held _ => 1
def uptoBulkAll {H : Type} : List (DataW H) → Nat
  | [] => 0
  | d :: r => uptoBulk d + uptoBulkAll r
def uptoBulkEntries {H : Type} : List (Lit × DataW H) → Nat
  | [] => 0
  | x :: r => uptoBulkEntry x + uptoBulkEntries r
def uptoBulkEntry {H : Type} : Lit × DataW H → Nat
  | (.string bytes, d) => bytes.length + uptoBulk d + 1
  | (_, d) => uptoBulk d + 1
 end
def uptoSmall : (H : Type) → List (DataW H) → Bool := fun _ ds => decide (uptoBulkAll ds ≤ 1048576)
def OpenSpec.upto (s : _root_.Go.ChangeSpec) : _root_.Go.OpenSpec := { _root_.Go.OpenSpec.ofChange s with cond := some uptoSmall }

/-- 'laws.FnExactBesideAngel', WHERE WHAT IT READS IS OF BULK AT MOST 1048576: true; the input reads as it did. -/
def fnExactBesideAngelUptoRow : OpenClaim := { program := "ytlmpnbmifcelkaa", sum := "b9271ff7c951d066b2fef274395cca1e5086b81d2c34ced2d2d0e423f30b186e", func := "loop.example/dualchoices/laws.FnExactBesideAngel", spec := "fnExactBesideAngel", inPlace := ["internal/bytealg.IndexByteString"], unfollowed := true, recurses := true, apart := false, narrowed := true }
def FnExactBesideAngelUptoSaid : Prop := fnExactBesideAngelUptoRow.holds Try.pinned (OpenSpec.upto fnExactBesideAngelSpec)

/-- 'laws.FnExactBesideDemon', WHERE WHAT IT READS IS OF BULK AT MOST 1048576: true; the input reads as it did. -/
def fnExactBesideDemonUptoRow : OpenClaim := { program := "ytlmpnbmifcelkaa", sum := "b9271ff7c951d066b2fef274395cca1e5086b81d2c34ced2d2d0e423f30b186e", func := "loop.example/dualchoices/laws.FnExactBesideDemon", spec := "fnExactBesideDemon", inPlace := ["internal/bytealg.IndexByteString"], unfollowed := true, recurses := true, apart := false, narrowed := true }
def FnExactBesideDemonUptoSaid : Prop := fnExactBesideDemonUptoRow.holds Try.pinned (OpenSpec.upto fnExactBesideDemonSpec)

end Rows
end Go.Proofs.Ytlmpnbmifcelkaa
