/-
  No cell of these rows narrows 'for every input' (looked for: loops, veiled, ifaces, maps, wideKeys, modest, calm, conditions, laid).
  DERIVED. THE GIVEN ROWS OF THIS SEAT. 7 by the template 'for every input the law returns true; each argument reads behind the call as it read before'; 0 by the template 'total and deterministic' (their statements: YtihmdfhgkfgmnaaTotals.lean).
  GIVEN WITH THE SEED: the statements are not yours to turn. If you find one false, say at which input.
  Laid BY PROGRAM, IN A SANDBOX (cutbox-rows.mjs): the forced cells as the released guide's own fill.sh prints them over the translation 44d1005800da94ce… (all of the seat's roots in one cut). By AI agents, Wed Nov 11 2026. No macro, syntax, notation, axiom, sorry.
-/
import Derived.Test.YtihmdfhgkfgmnaaChecked
import GoSem.Claim
import GoSem.ClaimJoined
import GoSem.ClaimMapViews
import Derived.JoinedTies
import Derived.KernelRfl
namespace Go.Proofs.Ytihmdfhgkfgmnaa
/- THE CELL 'sum', in the pinned program and in every row, IS THE sha256 OF THE DUMP (.gsa) THAT YtihmdfhgkfgmnaaProg.lean LOADS. Nothing in Lean hashes anything: it is a label: what it is worth is what the hold of that sum in a sandbox is worth. -/
noncomputable def Try.pinned : Pinned := { name := "ytihmdfhgkfgmnaa", sum := "44d1005800da94cee2cdeb4660aa7923c90311c9329506b062fae1c19f2dc900", checked := Try.checked }
namespace Rows
def none {H : Type} : Left H := { results := [], args := [] }

/-- 'laws.FnExactSimulatesContract': WHATEVER THE INPUT: true; the input reads as it did. -/
def fnExactSimulatesContractSpec : ChangeSpec := { name := "fnExactSimulatesContract", fn := fun _ => fun
  | [d1, d2, d3] => { results := [.lit (.bool true)], args := [d1, d2, d3] }
  | _ => none }
def fnExactSimulatesContractRow : OpenClaim := { program := "ytihmdfhgkfgmnaa", sum := "44d1005800da94cee2cdeb4660aa7923c90311c9329506b062fae1c19f2dc900", func := "loop.example/dualchoices/laws.FnExactSimulatesContract", spec := "fnExactSimulatesContract", inPlace := ["internal/bytealg.IndexByteString"], unfollowed := true, recurses := true, apart := false }
def FnExactSimulatesContractSaid : Prop := fnExactSimulatesContractRow.holds Try.pinned (OpenSpec.ofChange fnExactSimulatesContractSpec)

/-- ITS FALSE NEIGHBOUR: 'it returns false'. Refute it at one input. -/
def fnExactSimulatesContractWrong : ChangeSpec := { name := "fnExactSimulatesContract", fn := fun _ => fun
  | [d1, d2, d3] => { results := [.lit (.bool false)], args := [d1, d2, d3] }
  | _ => none }
def FnExactSimulatesContractWrongFalsely : Prop := fnExactSimulatesContractRow.holds Try.pinned (OpenSpec.ofChange fnExactSimulatesContractWrong)

/-- 'laws.FnExactConcreteContract': WHATEVER THE INPUT: true; the input reads as it did. -/
def fnExactConcreteContractSpec : ChangeSpec := { name := "fnExactConcreteContract", fn := fun _ => fun
  | [d1, d2] => { results := [.lit (.bool true)], args := [d1, d2] }
  | _ => none }
def fnExactConcreteContractRow : OpenClaim := { program := "ytihmdfhgkfgmnaa", sum := "44d1005800da94cee2cdeb4660aa7923c90311c9329506b062fae1c19f2dc900", func := "loop.example/dualchoices/laws.FnExactConcreteContract", spec := "fnExactConcreteContract", inPlace := ["internal/bytealg.IndexByteString"], unfollowed := true, recurses := true, apart := false }
def FnExactConcreteContractSaid : Prop := fnExactConcreteContractRow.holds Try.pinned (OpenSpec.ofChange fnExactConcreteContractSpec)

/-- ITS FALSE NEIGHBOUR: 'it returns false'. Refute it at one input. -/
def fnExactConcreteContractWrong : ChangeSpec := { name := "fnExactConcreteContract", fn := fun _ => fun
  | [d1, d2] => { results := [.lit (.bool false)], args := [d1, d2] }
  | _ => none }
def FnExactConcreteContractWrongFalsely : Prop := fnExactConcreteContractRow.holds Try.pinned (OpenSpec.ofChange fnExactConcreteContractWrong)

/-- 'laws.FnExactCanonicalContract': WHATEVER THE INPUT: true; the input reads as it did. -/
def fnExactCanonicalContractSpec : ChangeSpec := { name := "fnExactCanonicalContract", fn := fun _ => fun
  | [d] => { results := [.lit (.bool true)], args := [d] }
  | _ => none }
def fnExactCanonicalContractRow : OpenClaim := { program := "ytihmdfhgkfgmnaa", sum := "44d1005800da94cee2cdeb4660aa7923c90311c9329506b062fae1c19f2dc900", func := "loop.example/dualchoices/laws.FnExactCanonicalContract", spec := "fnExactCanonicalContract", inPlace := ["internal/bytealg.IndexByteString"], unfollowed := true, recurses := true, apart := false }
def FnExactCanonicalContractSaid : Prop := fnExactCanonicalContractRow.holds Try.pinned (OpenSpec.ofChange fnExactCanonicalContractSpec)

/-- ITS FALSE NEIGHBOUR: 'it returns false'. Refute it at one input. -/
def fnExactCanonicalContractWrong : ChangeSpec := { name := "fnExactCanonicalContract", fn := fun _ => fun
  | [d] => { results := [.lit (.bool false)], args := [d] }
  | _ => none }
def FnExactCanonicalContractWrongFalsely : Prop := fnExactCanonicalContractRow.holds Try.pinned (OpenSpec.ofChange fnExactCanonicalContractWrong)

/-- 'laws.FnExactPlayContract': WHATEVER THE INPUT: true; the input reads as it did. -/
def fnExactPlayContractSpec : ChangeSpec := { name := "fnExactPlayContract", fn := fun _ => fun
  | [d1, d2, d3] => { results := [.lit (.bool true)], args := [d1, d2, d3] }
  | _ => none }
def fnExactPlayContractRow : OpenClaim := { program := "ytihmdfhgkfgmnaa", sum := "44d1005800da94cee2cdeb4660aa7923c90311c9329506b062fae1c19f2dc900", func := "loop.example/dualchoices/laws.FnExactPlayContract", spec := "fnExactPlayContract", inPlace := ["internal/bytealg.IndexByteString"], recurses := true, apart := false }
def FnExactPlayContractSaid : Prop := fnExactPlayContractRow.holds Try.pinned (OpenSpec.ofChange fnExactPlayContractSpec)

/-- ITS FALSE NEIGHBOUR: 'it returns false'. Refute it at one input. -/
def fnExactPlayContractWrong : ChangeSpec := { name := "fnExactPlayContract", fn := fun _ => fun
  | [d1, d2, d3] => { results := [.lit (.bool false)], args := [d1, d2, d3] }
  | _ => none }
def FnExactPlayContractWrongFalsely : Prop := fnExactPlayContractRow.holds Try.pinned (OpenSpec.ofChange fnExactPlayContractWrong)

/-- 'laws.FnExactChoicesAt': WHATEVER THE INPUT: true; the input reads as it did. -/
def fnExactChoicesAtSpec : ChangeSpec := { name := "fnExactChoicesAt", fn := fun _ => fun
  | [d1, d2, d3] => { results := [.lit (.bool true)], args := [d1, d2, d3] }
  | _ => none }
def fnExactChoicesAtRow : OpenClaim := { program := "ytihmdfhgkfgmnaa", sum := "44d1005800da94cee2cdeb4660aa7923c90311c9329506b062fae1c19f2dc900", func := "loop.example/dualchoices/laws.FnExactChoicesAt", spec := "fnExactChoicesAt", inPlace := ["internal/bytealg.IndexByteString"], recurses := true, apart := false }
def FnExactChoicesAtSaid : Prop := fnExactChoicesAtRow.holds Try.pinned (OpenSpec.ofChange fnExactChoicesAtSpec)

/-- ITS FALSE NEIGHBOUR: 'it returns false'. Refute it at one input. -/
def fnExactChoicesAtWrong : ChangeSpec := { name := "fnExactChoicesAt", fn := fun _ => fun
  | [d1, d2, d3] => { results := [.lit (.bool false)], args := [d1, d2, d3] }
  | _ => none }
def FnExactChoicesAtWrongFalsely : Prop := fnExactChoicesAtRow.holds Try.pinned (OpenSpec.ofChange fnExactChoicesAtWrong)

/-- 'laws.FnExactCountPlays': WHATEVER THE INPUT: true; the input reads as it did. -/
def fnExactCountPlaysSpec : ChangeSpec := { name := "fnExactCountPlays", fn := fun _ => fun
  | [d1, d2] => { results := [.lit (.bool true)], args := [d1, d2] }
  | _ => none }
def fnExactCountPlaysRow : OpenClaim := { program := "ytihmdfhgkfgmnaa", sum := "44d1005800da94cee2cdeb4660aa7923c90311c9329506b062fae1c19f2dc900", func := "loop.example/dualchoices/laws.FnExactCountPlays", spec := "fnExactCountPlays", inPlace := ["internal/bytealg.IndexByteString"], recurses := true, apart := false }
def FnExactCountPlaysSaid : Prop := fnExactCountPlaysRow.holds Try.pinned (OpenSpec.ofChange fnExactCountPlaysSpec)

/-- ITS FALSE NEIGHBOUR: 'it returns false'. Refute it at one input. -/
def fnExactCountPlaysWrong : ChangeSpec := { name := "fnExactCountPlays", fn := fun _ => fun
  | [d1, d2] => { results := [.lit (.bool false)], args := [d1, d2] }
  | _ => none }
def FnExactCountPlaysWrongFalsely : Prop := fnExactCountPlaysRow.holds Try.pinned (OpenSpec.ofChange fnExactCountPlaysWrong)

/-- 'laws.FnExactOutcomesOf': WHATEVER THE INPUT: true; the input reads as it did. -/
def fnExactOutcomesOfSpec : ChangeSpec := { name := "fnExactOutcomesOf", fn := fun _ => fun
  | [d1, d2] => { results := [.lit (.bool true)], args := [d1, d2] }
  | _ => none }
def fnExactOutcomesOfRow : OpenClaim := { program := "ytihmdfhgkfgmnaa", sum := "44d1005800da94cee2cdeb4660aa7923c90311c9329506b062fae1c19f2dc900", func := "loop.example/dualchoices/laws.FnExactOutcomesOf", spec := "fnExactOutcomesOf", inPlace := ["internal/bytealg.IndexByteString"], recurses := true, apart := false }
def FnExactOutcomesOfSaid : Prop := fnExactOutcomesOfRow.holds Try.pinned (OpenSpec.ofChange fnExactOutcomesOfSpec)

/-- ITS FALSE NEIGHBOUR: 'it returns false'. Refute it at one input. -/
def fnExactOutcomesOfWrong : ChangeSpec := { name := "fnExactOutcomesOf", fn := fun _ => fun
  | [d1, d2] => { results := [.lit (.bool false)], args := [d1, d2] }
  | _ => none }
def FnExactOutcomesOfWrongFalsely : Prop := fnExactOutcomesOfRow.holds Try.pinned (OpenSpec.ofChange fnExactOutcomesOfWrong)

/- THE SECOND FORM. 'bulk': how many values and letters a reading holds, each counted each time it is reached (what is shared counts as often as it is met; a slice's spare places count too). A statement '..UptoSaid' is the law's where the arguments, and the package variables that the reading takes, are together of bulk at most 1048576: NARROWER than '..Said'. Prove '..Said' where nothing that the law and all that it calls make is longer than what came in: it says more and counts as full. Else prove '..UptoSaid'. A law counts once. -/
mutual
def uptoBulk {H : Type} : DataW H → Nat
  | .lit (.string bytes) => bytes.length + 1
  | .lit _ => 1
  | .nil => 1
  | .ptr d => uptoBulk d + 1
  | .slice elems spare => uptoBulkAll elems + uptoBulkAll spare + 1
  | .agg parts => uptoBulkAll parts + 1
  | .iface _ d => uptoBulk d + 1
  | .map entries => uptoBulkEntries entries + 1
  | .held _ => 1
def uptoBulkAll {H : Type} : List (DataW H) → Nat
  | [] => 0
  | d :: r => uptoBulk d + uptoBulkAll r
def uptoBulkEntries {H : Type} : List (Lit × DataW H) → Nat
  | [] => 0
  | x :: r => uptoBulkEntry x + uptoBulkEntries r
def uptoBulkEntry {H : Type} : Lit × DataW H → Nat
  | (.string bytes, d) => bytes.length + uptoBulk d + 1
  | (_, d) => uptoBulk d + 1
 end
def uptoSmall : (H : Type) → List (DataW H) → Bool := fun _ ds => decide (uptoBulkAll ds ≤ 1048576)
def OpenSpec.upto (s : _root_.Go.ChangeSpec) : _root_.Go.OpenSpec := { _root_.Go.OpenSpec.ofChange s with cond := some uptoSmall }

/-- 'laws.FnExactSimulatesContract', WHERE WHAT IT READS IS OF BULK AT MOST 1048576: true; the input reads as it did. -/
def fnExactSimulatesContractUptoRow : OpenClaim := { program := "ytihmdfhgkfgmnaa", sum := "44d1005800da94cee2cdeb4660aa7923c90311c9329506b062fae1c19f2dc900", func := "loop.example/dualchoices/laws.FnExactSimulatesContract", spec := "fnExactSimulatesContract", inPlace := ["internal/bytealg.IndexByteString"], unfollowed := true, recurses := true, apart := false, narrowed := true }
def FnExactSimulatesContractUptoSaid : Prop := fnExactSimulatesContractUptoRow.holds Try.pinned (OpenSpec.upto fnExactSimulatesContractSpec)

/-- 'laws.FnExactConcreteContract', WHERE WHAT IT READS IS OF BULK AT MOST 1048576: true; the input reads as it did. -/
def fnExactConcreteContractUptoRow : OpenClaim := { program := "ytihmdfhgkfgmnaa", sum := "44d1005800da94cee2cdeb4660aa7923c90311c9329506b062fae1c19f2dc900", func := "loop.example/dualchoices/laws.FnExactConcreteContract", spec := "fnExactConcreteContract", inPlace := ["internal/bytealg.IndexByteString"], unfollowed := true, recurses := true, apart := false, narrowed := true }
def FnExactConcreteContractUptoSaid : Prop := fnExactConcreteContractUptoRow.holds Try.pinned (OpenSpec.upto fnExactConcreteContractSpec)

/-- 'laws.FnExactCanonicalContract', WHERE WHAT IT READS IS OF BULK AT MOST 1048576: true; the input reads as it did. -/
def fnExactCanonicalContractUptoRow : OpenClaim := { program := "ytihmdfhgkfgmnaa", sum := "44d1005800da94cee2cdeb4660aa7923c90311c9329506b062fae1c19f2dc900", func := "loop.example/dualchoices/laws.FnExactCanonicalContract", spec := "fnExactCanonicalContract", inPlace := ["internal/bytealg.IndexByteString"], unfollowed := true, recurses := true, apart := false, narrowed := true }
def FnExactCanonicalContractUptoSaid : Prop := fnExactCanonicalContractUptoRow.holds Try.pinned (OpenSpec.upto fnExactCanonicalContractSpec)

/-- 'laws.FnExactPlayContract', WHERE WHAT IT READS IS OF BULK AT MOST 1048576: true; the input reads as it did. -/
def fnExactPlayContractUptoRow : OpenClaim := { program := "ytihmdfhgkfgmnaa", sum := "44d1005800da94cee2cdeb4660aa7923c90311c9329506b062fae1c19f2dc900", func := "loop.example/dualchoices/laws.FnExactPlayContract", spec := "fnExactPlayContract", inPlace := ["internal/bytealg.IndexByteString"], recurses := true, apart := false, narrowed := true }
def FnExactPlayContractUptoSaid : Prop := fnExactPlayContractUptoRow.holds Try.pinned (OpenSpec.upto fnExactPlayContractSpec)

/-- 'laws.FnExactChoicesAt', WHERE WHAT IT READS IS OF BULK AT MOST 1048576: true; the input reads as it did. -/
def fnExactChoicesAtUptoRow : OpenClaim := { program := "ytihmdfhgkfgmnaa", sum := "44d1005800da94cee2cdeb4660aa7923c90311c9329506b062fae1c19f2dc900", func := "loop.example/dualchoices/laws.FnExactChoicesAt", spec := "fnExactChoicesAt", inPlace := ["internal/bytealg.IndexByteString"], recurses := true, apart := false, narrowed := true }
def FnExactChoicesAtUptoSaid : Prop := fnExactChoicesAtUptoRow.holds Try.pinned (OpenSpec.upto fnExactChoicesAtSpec)

/-- 'laws.FnExactCountPlays', WHERE WHAT IT READS IS OF BULK AT MOST 1048576: true; the input reads as it did. -/
def fnExactCountPlaysUptoRow : OpenClaim := { program := "ytihmdfhgkfgmnaa", sum := "44d1005800da94cee2cdeb4660aa7923c90311c9329506b062fae1c19f2dc900", func := "loop.example/dualchoices/laws.FnExactCountPlays", spec := "fnExactCountPlays", inPlace := ["internal/bytealg.IndexByteString"], recurses := true, apart := false, narrowed := true }
def FnExactCountPlaysUptoSaid : Prop := fnExactCountPlaysUptoRow.holds Try.pinned (OpenSpec.upto fnExactCountPlaysSpec)

/-- 'laws.FnExactOutcomesOf', WHERE WHAT IT READS IS OF BULK AT MOST 1048576: true; the input reads as it did. -/
def fnExactOutcomesOfUptoRow : OpenClaim := { program := "ytihmdfhgkfgmnaa", sum := "44d1005800da94cee2cdeb4660aa7923c90311c9329506b062fae1c19f2dc900", func := "loop.example/dualchoices/laws.FnExactOutcomesOf", spec := "fnExactOutcomesOf", inPlace := ["internal/bytealg.IndexByteString"], recurses := true, apart := false, narrowed := true }
def FnExactOutcomesOfUptoSaid : Prop := fnExactOutcomesOfUptoRow.holds Try.pinned (OpenSpec.upto fnExactOutcomesOfSpec)

end Rows
end Go.Proofs.Ytihmdfhgkfgmnaa
