/- When the angel wins a contract, and states of conditions: the program. -/
import Derived.Test.YtaeibhpkcikaaaaGreatDoorGP
import Derived.Test.YtaeibhpkcikaaaaGreatDoorImS
namespace Go.Proofs.YtaeibhpkcikaaaaGreatDoor
set_option linter.unusedVariables false
set_option linter.unusedSimpArgs false
open Go.RowKit Go.Shelf
set_option maxRecDepth 100000
set_option maxHeartbeats 4000000

theorem impl_HasState {p : Int} (hp : C p) {s : Nat} (hs : s < 4) (w : World) : Calls Tryz.prog 39 #[.int .i64 p, .int .i64 s] w fun e w' => e = .returned (.bool (has p s)) ∧ w = w' := by
  have H1 := Lib.hid (isC_mk hp)
  have H2 : Hid (stOk (s : Int) = true) := stOk_of hs
  go_enter Tryz.func39, Tryz.ntmps39
  go_wp2_with fail
  refine (impl_ConditionValid _ _).mono ?_
  rintro e w' ⟨rfl, rfl⟩
  rw [H1.out]
  go_wp2_with fail
  refine (impl_stateOk _ _).mono ?_
  rintro e w' ⟨rfl, rfl⟩
  rw [H2.out]
  go_wp2_with fail
  go_ret
  exact ⟨rfl, rfl⟩
theorem impl_AngelWins (t : Ct) (ht : t.WF) (hlen : t.len ≤ 200) {s : Nat} (hs : s < 4) {p : Int} (hp : C p) (w : World) : Calls Tryz.prog 8 #[.string t.text, .int .i64 s, .int .i64 p] w fun e w' => e = .returned (.bool (has (t.sem p.toNat) s)) ∧ Below w.heap.size w w' := by
  have hc := (t.mon ht).ok p.toNat
  have HN := Lib.hid (impl_NeedsBefore t ht hlen hp)
  generalize t.sem p.toNat = n at *
  have h0 : 0 ≤ n := hc.1
  go_enter Tryz.func8, Tryz.ntmps8
  go_wp2_with fail
  refine (HN.out _).mono ?_
  rintro e w1 ⟨rfl, hb1⟩
  go_wp2_with fail
  refine (impl_HasState hc hs _).mono ?_
  rintro e w' ⟨rfl, rfl⟩
  go_wp2_with fail
  go_ret
  exact ⟨rfl, hb1⟩
end Go.Proofs.YtaeibhpkcikaaaaGreatDoor
