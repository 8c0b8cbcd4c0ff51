/- Contracts: the reference's backward simulations and the greatest abstract transformer. -/
import Derived.Test.YtihmdfhgkfgmnaaIm11
namespace Go.Proofs.Ytihmdfhgkfgmnaa
set_option linter.unusedVariables false
set_option linter.unusedSimpArgs false
open Go.RowKit Go.Shelf
set_option maxRecDepth 100000
set_option maxHeartbeats 1000000

/-- the text of the demon's way, as the reference makes it -/
theorem way_eq (r : ByteArray) : Eq16 (dualT (val (txt 16 (angelT (val (txt 4 (turn (val r)))))))) (wayT (val r)) := by
  have h1 : Eq16 (val (txt 16 (angelT (val (txt 4 (turn (val r))))))) (angelT (turn (val r))) :=
    (eq16_txt (angelT_ok _)).trans (eq16_angel fun k hk => eq4_txt (turn_ok _) k hk)
  exact h1.dual.trans (dual_angel (turn_ok _))
theorem way_val (r : ByteArray) : Eq16 (val (txt 16 (dualT (val (txt 16 (angelT (val (txt 4 (turn (val r))))))))))  (wayT (val r)) :=
  (eq16_txt (dualT_ok (val_ok _))).trans (way_eq r)
theorem mono_way (r : ByteArray) : mono (wayT (val r)) = true := mono_demon (turn_ok _)

end Go.Proofs.Ytihmdfhgkfgmnaa
