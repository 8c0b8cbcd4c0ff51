/- Contracts: the program's families and what is chosen beside. -/
import Derived.Test.YtaeibhpkcikaaaaGreatDoorGD
import Derived.Test.YtaeibhpkcikaaaaGreatDoorGA
namespace Go.Proofs.YtaeibhpkcikaaaaGreatDoor
set_option linter.unusedVariables false
set_option linter.unusedSimpArgs false
open Go.RowKit Go.Shelf
set_option maxRecDepth 100000
set_option maxHeartbeats 1000000

/-- some condition of the family is one of b -/
def someP (f : Int) (b : Nat → Bool) : Bool := (List.range 16).any fun p => has f p && b p

theorem fam_u : Tryz.prog.underlying 81 = some (.array 4 3) := Tryz.underlying81
theorem fam_i : (Tryz.prog.info? 81).map (·.size) = some 4 := by kernel_rfl

theorem op_store_Int {P : Program} {o : Oper} {a : Act} {w : World} {K : Act → World → Prop} {Q : Exit → Act → World → Prop} (ty : TypeId) (x y : Operand) (ho : o.op = .store ty x y)
    (g i : Nat) (hx : a.eval x = .pointer (some ⟨g, i, none⟩)) {v : Int} (hy : a.eval y = .int .i64 v) {t : TypeId} {n : Nat} {f : Nat → Int} (hg : Row w g t n f) (hi : i < n) (hz : (P.info? ty).map (·.size) = some 1)
    (h : K (a.put o.dst undef) (w.setCell ⟨g, i, none⟩ (.int .i64 v))) : o.wp P a w K Q := by
  have hc := hg.cell i hi
  have hf := hg.free i
  unfold Oper.wp execOp
  cases hI : P.info? ty with
  | none => simp [hI] at hz
  | some I =>
    have hz' : I.size = 1 := by simpa [hI] using hz
    simp only [ho, hx, hy, Instr.storeAt, Instr.sureAddr, Sem.run_bind, Sem.run_pure, Result.andThen_ok]
    simp [go_sem, storeVar, sizeOf, typeInfo, hI, hz', hc, hf]
    exact h

end Go.Proofs.YtaeibhpkcikaaaaGreatDoor
