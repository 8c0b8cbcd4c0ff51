/- Contracts: the program's residuals and simulations. -/
import Derived.Test.YtaeibhpkcikaaaaGreatDoorGC
import Derived.Test.YtaeibhpkcikaaaaGreatDoorSp10
/- Im10 -/
namespace Go.Proofs.YtaeibhpkcikaaaaGreatDoor
set_option linter.unusedVariables false
set_option linter.unusedSimpArgs false
open Go.RowKit Go.Shelf
set_option maxRecDepth 100000
set_option maxHeartbeats 1000000

/-! ### a relation and a transformer -/
/-- in every world that w has grown to, calling g with a relation and a transformer hands back F of them -/
def AsksRT (P : Program) (g : FuncId) (bv lb : Array Value) (F : (Nat → Int) → (Nat → Int) → Nat → Int) (w : World) : Prop :=
  ∀ (W : World) (x y : Nat → Int), Cond x → Cond y → Below w.heap.size w W → Calls P g (bv ++ (#[.agg (cs 4 x), .agg (cs 16 y)] ++ lb)) W fun e W' => e = .returned (.agg (cs 16 (F x y))) ∧ Below W.heap.size W W'

/-- the least concrete one that simulates -/
def concT (r t : Nat → Int) : Nat → Int := leastT (angelT r) (thenT (angelT r) t)
theorem concT_ok (r t : Nat → Int) : Cond (concT r t) := leastT_ok (thenT_ok (angelT_ok r) t)

/-- a whole row is read where a guard lets by -/
theorem wp_load_RowG {P : Program} {ops : Array Oper} {rest : List Oper} {o : Oper} {a : Act} {w : World} {Q : Exit → Act → World → Prop} (hw : Region.wanted o (yielded ops a.tmps) = true) (ty : TypeId) (x : Operand) (ho : o.op = .load ty x) (g : Nat) (hx : a.eval x = .pointer (some ⟨g, 0, none⟩)) {t : TypeId} {n : Nat} {f : Nat → Int} {d : TypeDesc}
    (hg : Row w g t n f) (hu : P.underlying ty = some d) (hd : (match d with | .struct _ | .array _ _ => true | _ => false) = true) (hi : (P.info? ty).map (·.size) = some n)
    (h : wpList P ops Q rest (a.put o.dst (.agg (cs n f))) w) : wpList P ops Q (o :: rest) a w := by
  unfold wpList
  rw [if_pos hw]
  exact Or.inl (wp_load_row ty x ho g hx t (cs n f) (0, 0) d hg.eq hu hd (by rw [cs_size]; exact hi) h)

end Go.Proofs.YtaeibhpkcikaaaaGreatDoor

/- Im11 -/
namespace Go.Proofs.YtaeibhpkcikaaaaGreatDoor
set_option linter.unusedVariables false
set_option linter.unusedSimpArgs false
open Go.RowKit Go.Shelf
set_option maxRecDepth 100000
set_option maxHeartbeats 1000000

/-- the demon's way from abstract states to concrete ones -/
def wayT (r : Nat → Int) : Nat → Int := demonT (turn r)
theorem wayT_ok (r : Nat → Int) : Cond (wayT r) := demonT_ok _
def bwdT (r t u : Nat → Int) : Bool := refT (thenT t (wayT r)) (thenT (wayT r) u)

/-- the greatest abstract one that is simulated -/
def absT (r u : Nat → Int) : Nat → Int := mostT (wayT r) (thenT (wayT r) u)
theorem absT_ok (r u : Nat → Int) : Cond (absT r u) := mostT_ok (thenT_ok (wayT_ok r) u)

end Go.Proofs.YtaeibhpkcikaaaaGreatDoor

/- Sp11 -/
namespace Go.Proofs.YtaeibhpkcikaaaaGreatDoor
set_option linter.unusedVariables false
set_option linter.unusedSimpArgs false
open Go.RowKit Go.Shelf
set_option maxRecDepth 100000
set_option maxHeartbeats 1000000

/-- the text of the demon's way, as the reference makes it -/
theorem way_eq (r : ByteArray) : Eq16 (dualT (val (txt 16 (angelT (val (txt 4 (turn (val r)))))))) (wayT (val r)) := by
  have h1 : Eq16 (val (txt 16 (angelT (val (txt 4 (turn (val r))))))) (angelT (turn (val r))) :=
    (eq16_txt (angelT_ok _)).trans (eq16_angel fun k hk => eq4_txt (turn_ok _) k hk)
  exact h1.dual.trans (dual_angel (turn_ok _))
theorem way_val (r : ByteArray) : Eq16 (val (txt 16 (dualT (val (txt 16 (angelT (val (txt 4 (turn (val r))))))))))  (wayT (val r)) :=
  (eq16_txt (dualT_ok (val_ok _))).trans (way_eq r)
theorem mono_way (r : ByteArray) : mono (wayT (val r)) = true := mono_demon (turn_ok _)

end Go.Proofs.YtaeibhpkcikaaaaGreatDoor
