/- Contracts: the program's backward simulations and the greatest abstract transformer. -/
import Derived.Test.YtihmdfhgkfgmnaaIm10
namespace Go.Proofs.Ytihmdfhgkfgmnaa
set_option linter.unusedVariables false
set_option linter.unusedSimpArgs false
open Go.RowKit Go.Shelf
set_option maxRecDepth 100000
set_option maxHeartbeats 1000000

/-- the demon's way from abstract states to concrete ones -/
def wayT (r : Nat → Int) : Nat → Int := demonT (turn r)
theorem wayT_ok (r : Nat → Int) : Cond (wayT r) := demonT_ok _
def bwdT (r t u : Nat → Int) : Bool := refT (thenT t (wayT r)) (thenT (wayT r) u)

/-- the greatest abstract one that is simulated -/
def absT (r u : Nat → Int) : Nat → Int := mostT (wayT r) (thenT (wayT r) u)
theorem absT_ok (r u : Nat → Int) : Cond (absT r u) := mostT_ok (thenT_ok (wayT_ok r) u)

end Go.Proofs.Ytihmdfhgkfgmnaa
