/- The program's simulations return what the reference's return: the laws' walks. -/
import Derived.Test.YtlckoibeldbmlaaSp11
namespace Go.Proofs.Ytlckoibeldbmlaa
open Go.RowKit Go.Shelf
set_option maxRecDepth 100000
set_option maxHeartbeats 1000000

theorem walk_ExactSimulatesForward (r t u : ByteArray) (w : World) (h0 : r.size ≤ maxLen) (h1 : t.size ≤ maxLen) (h2 : u.size ≤ maxLen) :
    Calls Try.prog 3 #[.string r, .string t, .string u] w fun e w' => e = .returned (.bool true) ∧ Below w.heap.size w w' := by
  unfold maxLen at h0 h1 h2
  by_cases hs : r.size ≤ 1048576
  · by_cases hq : t.size ≤ 1048576
    · by_cases hv : u.size ≤ 1048576
      · go_enter Try.func3, Try.ntmps3
        go_wp2_with fail
        refine (spec_SimulatesForward _ _ _ _ (by omega) (by omega) (by omega)).mono ?_
        rintro e w' ⟨rfl, rfl⟩
        go_wp2_with fail
        refine (impl_SimulatesForward _ _ _ (by omega) (by omega) (by omega) _).mono ?_
        rintro e w' ⟨rfl, hb⟩
        go_wp2_with fail
        go_ret
        exact ⟨rfl, hb⟩
      · go_enter Try.func3, Try.ntmps3
        go_wp2_with fail
        go_ret
        exact ⟨rfl, Below.refl _ _⟩
    · go_enter Try.func3, Try.ntmps3
      go_wp2_with fail
      go_ret
      exact ⟨rfl, Below.refl _ _⟩
  · go_enter Try.func3, Try.ntmps3
    go_wp2_with fail
    go_ret
    exact ⟨rfl, Below.refl _ _⟩

theorem walk_ExactSimulatesBackward (r t u : ByteArray) (w : World) (h0 : r.size ≤ maxLen) (h1 : t.size ≤ maxLen) (h2 : u.size ≤ maxLen) :
    Calls Try.prog 5 #[.string r, .string t, .string u] w fun e w' => e = .returned (.bool true) ∧ Below w.heap.size w w' := by
  unfold maxLen at h0 h1 h2
  by_cases hs : r.size ≤ 1048576
  · by_cases hq : t.size ≤ 1048576
    · by_cases hv : u.size ≤ 1048576
      · go_enter Try.func5, Try.ntmps5
        go_wp2_with fail
        refine (spec_SimulatesBackward _ _ _ _ (by omega) (by omega) (by omega)).mono ?_
        rintro e w' ⟨rfl, rfl⟩
        go_wp2_with fail
        refine (impl_SimulatesBackward _ _ _ (by omega) (by omega) (by omega) _).mono ?_
        rintro e w' ⟨rfl, hb⟩
        go_wp2_with fail
        go_ret
        exact ⟨rfl, hb⟩
      · go_enter Try.func5, Try.ntmps5
        go_wp2_with fail
        go_ret
        exact ⟨rfl, Below.refl _ _⟩
    · go_enter Try.func5, Try.ntmps5
      go_wp2_with fail
      go_ret
      exact ⟨rfl, Below.refl _ _⟩
  · go_enter Try.func5, Try.ntmps5
    go_wp2_with fail
    go_ret
    exact ⟨rfl, Below.refl _ _⟩

theorem walk_ExactConcreteLeast (r t : ByteArray) (w : World) (h0 : r.size ≤ maxLen) (h1 : t.size ≤ maxLen) :
    Calls Try.prog 4 #[.string r, .string t] w fun e w' => e = .returned (.bool true) ∧ Below w.heap.size w w' := by
  unfold maxLen at h0 h1
  by_cases hs : r.size ≤ 1048576
  · by_cases hq : t.size ≤ 1048576
    · go_enter Try.func4, Try.ntmps4
      go_wp2_with fail
      refine (spec_ConcreteLeast _ _ _ (by omega) (by omega)).mono ?_
      rintro e w' ⟨rfl, rfl⟩
      go_wp2_with fail
      refine (impl_ConcreteLeast _ _ (by omega) (by omega) _).mono ?_
      rintro e w' ⟨rfl, hb⟩
      go_wp2_with fail
      go_ret
      exact ⟨rfl, hb⟩
    · go_enter Try.func4, Try.ntmps4
      go_wp2_with fail
      go_ret
      exact ⟨rfl, Below.refl _ _⟩
  · go_enter Try.func4, Try.ntmps4
    go_wp2_with fail
    go_ret
    exact ⟨rfl, Below.refl _ _⟩

theorem walk_ExactAbstractMost (r t : ByteArray) (w : World) (h0 : r.size ≤ maxLen) (h1 : t.size ≤ maxLen) :
    Calls Try.prog 8 #[.string r, .string t] w fun e w' => e = .returned (.bool true) ∧ Below w.heap.size w w' := by
  unfold maxLen at h0 h1
  by_cases hs : r.size ≤ 1048576
  · by_cases hq : t.size ≤ 1048576
    · go_enter Try.func8, Try.ntmps8
      go_wp2_with fail
      refine (spec_AbstractMost _ _ _ (by omega) (by omega)).mono ?_
      rintro e w' ⟨rfl, rfl⟩
      go_wp2_with fail
      refine (impl_AbstractMost _ _ (by omega) (by omega) _).mono ?_
      rintro e w' ⟨rfl, hb⟩
      go_wp2_with fail
      go_ret
      exact ⟨rfl, hb⟩
    · go_enter Try.func8, Try.ntmps8
      go_wp2_with fail
      go_ret
      exact ⟨rfl, Below.refl _ _⟩
  · go_enter Try.func8, Try.ntmps8
    go_wp2_with fail
    go_ret
    exact ⟨rfl, Below.refl _ _⟩
end Go.Proofs.Ytlckoibeldbmlaa
