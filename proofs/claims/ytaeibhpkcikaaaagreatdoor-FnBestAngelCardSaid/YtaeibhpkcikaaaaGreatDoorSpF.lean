/- Contracts: the reference's families and what is chosen beside. -/
import Derived.Test.YtaeibhpkcikaaaaGreatDoorGD
import Derived.Test.YtaeibhpkcikaaaaGreatDoorGA
namespace Go.Proofs.YtaeibhpkcikaaaaGreatDoor
set_option linter.unusedVariables false
set_option linter.unusedSimpArgs false
open Go.RowKit Go.Shelf
set_option maxRecDepth 100000
set_option maxHeartbeats 1000000

theorem int_info3 : (Tryz.prog.info? 3).map (fun i => (i.zero, i.size, i.bytes)) = some (some (.int .i64 0), 1, 8) := by kernel_rfl
def missL (t u : Nat → Int) (k : Nat) : List Value := (List.range k).map fun s => .int .i64 (missT t u s)
theorem missL_succ (t u : Nat → Int) (k : Nat) : missL t u (k + 1) = missL t u k ++ [.int .i64 (missT t u k)] := by simp [missL, List.range_succ]
theorem owned_slice {w : World} {base : Nat} {e : TypeId} {v : Value} {n : Nat} {t u : Nat → Int} (h : w.ownsRow base e 1 v n (missL t u n)) (hne : v ≠ .slice none 0 0) :
    ∃ g cap, v = .slice (some ⟨g, 0, none⟩) n cap ∧ ∀ s, s < n → w.cell? ⟨g, s, none⟩ = some (.int .i64 (missT t u s)) := by
  rcases h.2 with ⟨rfl, _⟩ | ⟨g, cap, cur, rfl, _⟩
  · exact absurd rfl hne
  · refine ⟨g, cap, rfl, fun s hs => ?_⟩
    have h1 := World.ownsRow.cells h (g := g) rfl s (.int .i64 (missT t u s)) (by simp [missL, hs])
    have h2 : (⟨g, 0, none⟩ : Addr).add s = ⟨g, s, none⟩ := by unfold Addr.add; split <;> simp_all
    rwa [h2] at h1

end Go.Proofs.YtaeibhpkcikaaaaGreatDoor
