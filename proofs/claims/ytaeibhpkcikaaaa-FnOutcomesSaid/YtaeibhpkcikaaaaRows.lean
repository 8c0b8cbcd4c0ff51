/-
  No cell of these rows narrows 'for every input' (looked for: loops, veiled, ifaces, maps, wideKeys, modest, calm, conditions, laid).
  DERIVED. THE GIVEN ROWS OF THIS SEAT. 6 by the template 'for every input the law returns true; each argument reads behind the call as it read before'; 0 by the template 'total and deterministic' (their statements: YtaeibhpkcikaaaaTotals.lean).
  GIVEN WITH THE SEED: the statements are not yours to turn. If you find one false, say at which input.
  Laid BY PROGRAM, IN A SANDBOX (cutbox-rows.mjs): the forced cells as the released guide's own fill.sh prints them over the translation 333a60b9e293cdb9… (all of the seat's roots in one cut). By AI agents, Wed Nov 11 2026. No macro, syntax, notation, axiom, sorry.
-/
import Derived.Test.YtaeibhpkcikaaaaChecked
import GoSem.Claim
import GoSem.ClaimJoined
import GoSem.ClaimMapViews
import Derived.JoinedTies
import Derived.KernelRfl
namespace Go.Proofs.Ytaeibhpkcikaaaa
/- THE CELL 'sum', in the pinned program and in every row, IS THE sha256 OF THE DUMP (.gsa) THAT YtaeibhpkcikaaaaProg.lean LOADS. Nothing in Lean hashes anything: it is a label: what it is worth is what the hold of that sum in a sandbox is worth. -/
noncomputable def Try.pinned : Pinned := { name := "ytaeibhpkcikaaaa", sum := "333a60b9e293cdb982f6b5ab2ab3b630b8e5f61b9274571a3976c6ca34f5e94c", checked := Try.checked }
namespace Rows
def none {H : Type} : Left H := { results := [], args := [] }

/-- 'laws.FnPlay': WHATEVER THE INPUT: true; the input reads as it did. -/
def fnPlaySpec : ChangeSpec := { name := "fnPlay", fn := fun _ => fun
  | [d] => { results := [.lit (.bool true)], args := [d] }
  | _ => none }
def fnPlayRow : OpenClaim := { program := "ytaeibhpkcikaaaa", sum := "333a60b9e293cdb982f6b5ab2ab3b630b8e5f61b9274571a3976c6ca34f5e94c", func := "loop.example/dualchoices/laws.FnPlay", spec := "fnPlay", inPlace := ["internal/bytealg.IndexByteString"], recurses := true, apart := false }
def FnPlaySaid : Prop := fnPlayRow.holds Try.pinned (OpenSpec.ofChange fnPlaySpec)

/-- ITS FALSE NEIGHBOUR: 'it returns false'. Refute it at one input. -/
def fnPlayWrong : ChangeSpec := { name := "fnPlay", fn := fun _ => fun
  | [d] => { results := [.lit (.bool false)], args := [d] }
  | _ => none }
def FnPlayWrongFalsely : Prop := fnPlayRow.holds Try.pinned (OpenSpec.ofChange fnPlayWrong)

/-- 'laws.FnChoicesAt': WHATEVER THE INPUT: true; the input reads as it did. -/
def fnChoicesAtSpec : ChangeSpec := { name := "fnChoicesAt", fn := fun _ => fun
  | [d] => { results := [.lit (.bool true)], args := [d] }
  | _ => none }
def fnChoicesAtRow : OpenClaim := { program := "ytaeibhpkcikaaaa", sum := "333a60b9e293cdb982f6b5ab2ab3b630b8e5f61b9274571a3976c6ca34f5e94c", func := "loop.example/dualchoices/laws.FnChoicesAt", spec := "fnChoicesAt", inPlace := ["internal/bytealg.IndexByteString"], recurses := true, apart := false }
def FnChoicesAtSaid : Prop := fnChoicesAtRow.holds Try.pinned (OpenSpec.ofChange fnChoicesAtSpec)

/-- ITS FALSE NEIGHBOUR: 'it returns false'. Refute it at one input. -/
def fnChoicesAtWrong : ChangeSpec := { name := "fnChoicesAt", fn := fun _ => fun
  | [d] => { results := [.lit (.bool false)], args := [d] }
  | _ => none }
def FnChoicesAtWrongFalsely : Prop := fnChoicesAtRow.holds Try.pinned (OpenSpec.ofChange fnChoicesAtWrong)

/-- 'laws.FnAssignCode': WHATEVER THE INPUT: true; the input reads as it did. -/
def fnAssignCodeSpec : ChangeSpec := { name := "fnAssignCode", fn := fun _ => fun
  | [d] => { results := [.lit (.bool true)], args := [d] }
  | _ => none }
def fnAssignCodeRow : OpenClaim := { program := "ytaeibhpkcikaaaa", sum := "333a60b9e293cdb982f6b5ab2ab3b630b8e5f61b9274571a3976c6ca34f5e94c", func := "loop.example/dualchoices/laws.FnAssignCode", spec := "fnAssignCode", inPlace := ["internal/bytealg.IndexByteString"], unfollowed := true, recurses := true, apart := false }
def FnAssignCodeSaid : Prop := fnAssignCodeRow.holds Try.pinned (OpenSpec.ofChange fnAssignCodeSpec)

/-- ITS FALSE NEIGHBOUR: 'it returns false'. Refute it at one input. -/
def fnAssignCodeWrong : ChangeSpec := { name := "fnAssignCode", fn := fun _ => fun
  | [d] => { results := [.lit (.bool false)], args := [d] }
  | _ => none }
def FnAssignCodeWrongFalsely : Prop := fnAssignCodeRow.holds Try.pinned (OpenSpec.ofChange fnAssignCodeWrong)

/-- 'laws.FnConcreteContract': WHATEVER THE INPUT: true; the input reads as it did. -/
def fnConcreteContractSpec : ChangeSpec := { name := "fnConcreteContract", fn := fun _ => fun
  | [d1, d2] => { results := [.lit (.bool true)], args := [d1, d2] }
  | _ => none }
def fnConcreteContractRow : OpenClaim := { program := "ytaeibhpkcikaaaa", sum := "333a60b9e293cdb982f6b5ab2ab3b630b8e5f61b9274571a3976c6ca34f5e94c", func := "loop.example/dualchoices/laws.FnConcreteContract", spec := "fnConcreteContract", inPlace := ["internal/bytealg.IndexByteString"], unfollowed := true, recurses := true, apart := false }
def FnConcreteContractSaid : Prop := fnConcreteContractRow.holds Try.pinned (OpenSpec.ofChange fnConcreteContractSpec)

/-- ITS FALSE NEIGHBOUR: 'it returns false'. Refute it at one input. -/
def fnConcreteContractWrong : ChangeSpec := { name := "fnConcreteContract", fn := fun _ => fun
  | [d1, d2] => { results := [.lit (.bool false)], args := [d1, d2] }
  | _ => none }
def FnConcreteContractWrongFalsely : Prop := fnConcreteContractRow.holds Try.pinned (OpenSpec.ofChange fnConcreteContractWrong)

/-- 'laws.FnOutcomes': WHATEVER THE INPUT: true; the input reads as it did. -/
def fnOutcomesSpec : ChangeSpec := { name := "fnOutcomes", fn := fun _ => fun
  | [d1, d2] => { results := [.lit (.bool true)], args := [d1, d2] }
  | _ => none }
def fnOutcomesRow : OpenClaim := { program := "ytaeibhpkcikaaaa", sum := "333a60b9e293cdb982f6b5ab2ab3b630b8e5f61b9274571a3976c6ca34f5e94c", func := "loop.example/dualchoices/laws.FnOutcomes", spec := "fnOutcomes", inPlace := ["internal/bytealg.IndexByteString"], recurses := true, apart := false }
def FnOutcomesSaid : Prop := fnOutcomesRow.holds Try.pinned (OpenSpec.ofChange fnOutcomesSpec)

/-- ITS FALSE NEIGHBOUR: 'it returns false'. Refute it at one input. -/
def fnOutcomesWrong : ChangeSpec := { name := "fnOutcomes", fn := fun _ => fun
  | [d1, d2] => { results := [.lit (.bool false)], args := [d1, d2] }
  | _ => none }
def FnOutcomesWrongFalsely : Prop := fnOutcomesRow.holds Try.pinned (OpenSpec.ofChange fnOutcomesWrong)

/-- 'laws.FnOutcomesWin': WHATEVER THE INPUT: true; the input reads as it did. -/
def fnOutcomesWinSpec : ChangeSpec := { name := "fnOutcomesWin", fn := fun _ => fun
  | [d] => { results := [.lit (.bool true)], args := [d] }
  | _ => none }
def fnOutcomesWinRow : OpenClaim := { program := "ytaeibhpkcikaaaa", sum := "333a60b9e293cdb982f6b5ab2ab3b630b8e5f61b9274571a3976c6ca34f5e94c", func := "loop.example/dualchoices/laws.FnOutcomesWin", spec := "fnOutcomesWin", inPlace := ["internal/bytealg.IndexByteString"], unfollowed := true, recurses := true, apart := false }
def FnOutcomesWinSaid : Prop := fnOutcomesWinRow.holds Try.pinned (OpenSpec.ofChange fnOutcomesWinSpec)

/-- ITS FALSE NEIGHBOUR: 'it returns false'. Refute it at one input. -/
def fnOutcomesWinWrong : ChangeSpec := { name := "fnOutcomesWin", fn := fun _ => fun
  | [d] => { results := [.lit (.bool false)], args := [d] }
  | _ => none }
def FnOutcomesWinWrongFalsely : Prop := fnOutcomesWinRow.holds Try.pinned (OpenSpec.ofChange fnOutcomesWinWrong)

/- THE SECOND FORM. 'bulk': how many values and letters a reading holds, each counted each time it is reached (what is shared counts as often as it is met; a slice's spare places count too). A statement '..UptoSaid' is the law's where the arguments, and the package variables that the reading takes, are together of bulk at most 1048576: NARROWER than '..Said'. Prove '..Said' where nothing that the law and all that it calls make is longer than what came in: it says more and counts as full. Else prove '..UptoSaid'. A law counts once. -/
mutual
def uptoBulk {H : Type} : DataW H → Nat
  | .lit (.string bytes) => bytes.length + 1
  | .lit _ => 1
  | .nil => 1
  | .ptr d => uptoBulk d + 1
  | .slice elems spare => uptoBulkAll elems + uptoBulkAll spare + 1
  | .agg parts => uptoBulkAll parts + 1
  | .iface _ d => uptoBulk d + 1
  | .map entries => uptoBulkEntries entries + 1
  | .held _ => 1
def uptoBulkAll {H : Type} : List (DataW H) → Nat
  | [] => 0
  | d :: r => uptoBulk d + uptoBulkAll r
def uptoBulkEntries {H : Type} : List (Lit × DataW H) → Nat
  | [] => 0
  | x :: r => uptoBulkEntry x + uptoBulkEntries r
def uptoBulkEntry {H : Type} : Lit × DataW H → Nat
  | (.string bytes, d) => bytes.length + uptoBulk d + 1
  | (_, d) => uptoBulk d + 1
 end
def uptoSmall : (H : Type) → List (DataW H) → Bool := fun _ ds => decide (uptoBulkAll ds ≤ 1048576)
def OpenSpec.upto (s : _root_.Go.ChangeSpec) : _root_.Go.OpenSpec := { _root_.Go.OpenSpec.ofChange s with cond := some uptoSmall }

/-- 'laws.FnPlay', WHERE WHAT IT READS IS OF BULK AT MOST 1048576: true; the input reads as it did. -/
def fnPlayUptoRow : OpenClaim := { program := "ytaeibhpkcikaaaa", sum := "333a60b9e293cdb982f6b5ab2ab3b630b8e5f61b9274571a3976c6ca34f5e94c", func := "loop.example/dualchoices/laws.FnPlay", spec := "fnPlay", inPlace := ["internal/bytealg.IndexByteString"], recurses := true, apart := false, narrowed := true }
def FnPlayUptoSaid : Prop := fnPlayUptoRow.holds Try.pinned (OpenSpec.upto fnPlaySpec)

/-- 'laws.FnChoicesAt', WHERE WHAT IT READS IS OF BULK AT MOST 1048576: true; the input reads as it did. -/
def fnChoicesAtUptoRow : OpenClaim := { program := "ytaeibhpkcikaaaa", sum := "333a60b9e293cdb982f6b5ab2ab3b630b8e5f61b9274571a3976c6ca34f5e94c", func := "loop.example/dualchoices/laws.FnChoicesAt", spec := "fnChoicesAt", inPlace := ["internal/bytealg.IndexByteString"], recurses := true, apart := false, narrowed := true }
def FnChoicesAtUptoSaid : Prop := fnChoicesAtUptoRow.holds Try.pinned (OpenSpec.upto fnChoicesAtSpec)

/-- 'laws.FnAssignCode', WHERE WHAT IT READS IS OF BULK AT MOST 1048576: true; the input reads as it did. -/
def fnAssignCodeUptoRow : OpenClaim := { program := "ytaeibhpkcikaaaa", sum := "333a60b9e293cdb982f6b5ab2ab3b630b8e5f61b9274571a3976c6ca34f5e94c", func := "loop.example/dualchoices/laws.FnAssignCode", spec := "fnAssignCode", inPlace := ["internal/bytealg.IndexByteString"], unfollowed := true, recurses := true, apart := false, narrowed := true }
def FnAssignCodeUptoSaid : Prop := fnAssignCodeUptoRow.holds Try.pinned (OpenSpec.upto fnAssignCodeSpec)

/-- 'laws.FnConcreteContract', WHERE WHAT IT READS IS OF BULK AT MOST 1048576: true; the input reads as it did. -/
def fnConcreteContractUptoRow : OpenClaim := { program := "ytaeibhpkcikaaaa", sum := "333a60b9e293cdb982f6b5ab2ab3b630b8e5f61b9274571a3976c6ca34f5e94c", func := "loop.example/dualchoices/laws.FnConcreteContract", spec := "fnConcreteContract", inPlace := ["internal/bytealg.IndexByteString"], unfollowed := true, recurses := true, apart := false, narrowed := true }
def FnConcreteContractUptoSaid : Prop := fnConcreteContractUptoRow.holds Try.pinned (OpenSpec.upto fnConcreteContractSpec)

/-- 'laws.FnOutcomes', WHERE WHAT IT READS IS OF BULK AT MOST 1048576: true; the input reads as it did. -/
def fnOutcomesUptoRow : OpenClaim := { program := "ytaeibhpkcikaaaa", sum := "333a60b9e293cdb982f6b5ab2ab3b630b8e5f61b9274571a3976c6ca34f5e94c", func := "loop.example/dualchoices/laws.FnOutcomes", spec := "fnOutcomes", inPlace := ["internal/bytealg.IndexByteString"], recurses := true, apart := false, narrowed := true }
def FnOutcomesUptoSaid : Prop := fnOutcomesUptoRow.holds Try.pinned (OpenSpec.upto fnOutcomesSpec)

/-- 'laws.FnOutcomesWin', WHERE WHAT IT READS IS OF BULK AT MOST 1048576: true; the input reads as it did. -/
def fnOutcomesWinUptoRow : OpenClaim := { program := "ytaeibhpkcikaaaa", sum := "333a60b9e293cdb982f6b5ab2ab3b630b8e5f61b9274571a3976c6ca34f5e94c", func := "loop.example/dualchoices/laws.FnOutcomesWin", spec := "fnOutcomesWin", inPlace := ["internal/bytealg.IndexByteString"], unfollowed := true, recurses := true, apart := false, narrowed := true }
def FnOutcomesWinUptoSaid : Prop := fnOutcomesWinUptoRow.holds Try.pinned (OpenSpec.upto fnOutcomesWinSpec)

end Rows
end Go.Proofs.Ytaeibhpkcikaaaa
