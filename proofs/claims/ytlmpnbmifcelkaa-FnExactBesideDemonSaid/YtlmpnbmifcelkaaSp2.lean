/- Contracts: the reference's functions on conditions and relations. -/
import Derived.Test.YtlmpnbmifcelkaaDig
namespace Go.Proofs.Ytlmpnbmifcelkaa
open Go.RowKit Go.Shelf
set_option maxRecDepth 100000
set_option maxHeartbeats 1000000

theorem spec_l1In (n a b : Int) (w : World) : Calls Try.prog 31 #[.int .i64 n, .int .i64 a, .int .i64 b] w fun e w' => e = .returned (.bool (decide (a ≤ n) && decide (n ≤ b))) ∧ w = w' := by
  by_cases h1 : a ≤ n
  · have e1 : decide (a ≤ n) = true := by simpa using h1
    go_enter Try.func31, Try.ntmps31
    go_wp2_with fail
    go_ret
    exact ⟨ret_bool (by simp [h1]), rfl⟩
  · have e1 : decide (a ≤ n) = false := by simpa using h1
    go_enter Try.func31, Try.ntmps31
    go_wp2_with fail
    go_ret
    exact ⟨rfl, rfl⟩

/-- is p a condition? -/
def isC (p : Int) : Bool := decide (0 ≤ p) && decide (p ≤ 15)
theorem isC_mk {p : Int} (h : 0 ≤ p ∧ p ≤ 15) : isC p = true := by simp [isC, h.1, h.2]
theorem isC_get {p : Int} (h : isC p = true) : 0 ≤ p ∧ p ≤ 15 := by simpa [isC] using h

theorem spec_l1Has (p : Int) (k : Nat) (w : World) (hk : k ≤ 63) : Calls Try.prog 18 #[.int .i64 p, .int .i64 k] w fun e w' => e = .returned (.bool (has p k)) ∧ w = w' := by
  go_enter Try.func18, Try.ntmps18
  go_wp2_with fail
  go_ret
  exact ⟨rfl, rfl⟩

end Go.Proofs.Ytlmpnbmifcelkaa
