/- Contracts: the program's exported functions on relations. -/
import Derived.Test.YtihmdfhgkfgmnaaIm2
namespace Go.Proofs.Ytihmdfhgkfgmnaa
set_option linter.unusedVariables false
set_option linter.unusedSimpArgs false
open Go.RowKit Go.Shelf
set_option maxRecDepth 100000
set_option maxHeartbeats 1000000

/-- in every world that w has grown to, calling g with two relations hands back F of them -/
def AsksRR (P : Program) (g : FuncId) (bv lb : Array Value) (F : (Nat → Int) → (Nat → Int) → Nat → Int) (w : World) : Prop :=
  ∀ (W : World) (x y : Nat → Int), Cond x → Cond y → Below w.heap.size w W → Calls P g (bv ++ (#[.agg (cs 4 x), .agg (cs 4 y)] ++ lb)) W fun e W' => e = .returned (.agg (cs 4 (F x y))) ∧ Below W.heap.size W W'
/-- .. with a relation and a condition hands back the number F of them -/
def AsksRC (P : Program) (g : FuncId) (bv lb : Array Value) (F : (Nat → Int) → Int → Int) (w : World) : Prop :=
  ∀ (W : World) (x : Nat → Int) (p : Int), Cond x → C p → Below w.heap.size w W → Calls P g (bv ++ (#[.agg (cs 4 x), .int .i64 p] ++ lb)) W fun e W' => e = .returned (.int .i64 (F x p)) ∧ Below W.heap.size W W'


end Go.Proofs.Ytihmdfhgkfgmnaa
