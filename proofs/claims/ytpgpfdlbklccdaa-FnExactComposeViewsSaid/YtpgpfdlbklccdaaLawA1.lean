/- The program's ConcreteCondition, AbstractCondition and ComposeViews return what the reference's return: the laws' walks. -/
import Derived.Test.YtpgpfdlbklccdaaSp2b
namespace Go.Proofs.Ytpgpfdlbklccdaa
open Go.RowKit Go.Shelf
set_option maxRecDepth 100000
set_option maxHeartbeats 1000000

theorem walk_ExactConcreteCondition (r : ByteArray) (p : Int) (w : World) (h0 : r.size ≤ maxLen) (_h1 : (Lit.int .i64 p).wf = true) :
    Calls Try.prog 3 #[.string r, .int .i64 p] w fun e w' => e = .returned (.bool true) ∧ Below w.heap.size w w' := by
  unfold maxLen at h0
  by_cases hs : r.size ≤ 1048576
  · go_enter Try.func3, Try.ntmps3
    go_wp2_with fail
    refine (spec_ConcreteCondition _ _ _ (by omega)).mono ?_
    rintro e w' ⟨rfl, rfl⟩
    go_wp2_with fail
    refine (impl_ConcreteCondition _ _ (by omega) _).mono ?_
    rintro e w' ⟨rfl, hb⟩
    go_wp2_with fail
    go_ret
    exact ⟨rfl, hb⟩
  · go_enter Try.func3, Try.ntmps3
    go_wp2_with fail
    go_ret
    exact ⟨rfl, Below.refl _ _⟩

theorem walk_ExactAbstractCondition (r : ByteArray) (p : Int) (w : World) (h0 : r.size ≤ maxLen) (_h1 : (Lit.int .i64 p).wf = true) :
    Calls Try.prog 5 #[.string r, .int .i64 p] w fun e w' => e = .returned (.bool true) ∧ Below w.heap.size w w' := by
  unfold maxLen at h0
  by_cases hs : r.size ≤ 1048576
  · go_enter Try.func5, Try.ntmps5
    go_wp2_with fail
    refine (spec_AbstractCondition _ _ _ (by omega)).mono ?_
    rintro e w' ⟨rfl, rfl⟩
    go_wp2_with fail
    refine (impl_AbstractCondition _ _ (by omega) _).mono ?_
    rintro e w' ⟨rfl, hb⟩
    go_wp2_with fail
    go_ret
    exact ⟨rfl, hb⟩
  · go_enter Try.func5, Try.ntmps5
    go_wp2_with fail
    go_ret
    exact ⟨rfl, Below.refl _ _⟩

theorem walk_ExactComposeViews (r q : ByteArray) (w : World) (h0 : r.size ≤ maxLen) (h1 : q.size ≤ maxLen) :
    Calls Try.prog 4 #[.string r, .string q] w fun e w' => e = .returned (.bool true) ∧ Below w.heap.size w w' := by
  unfold maxLen at h0 h1
  by_cases hs : r.size ≤ 1048576
  · by_cases hq : q.size ≤ 1048576
    · go_enter Try.func4, Try.ntmps4
      go_wp2_with fail
      refine (spec_ComposeViews _ _ _ (by omega) (by omega)).mono ?_
      rintro e w' ⟨rfl, rfl⟩
      go_wp2_with fail
      refine (impl_ComposeViews _ _ (by omega) (by omega) _).mono ?_
      rintro e w' ⟨rfl, hb⟩
      go_wp2_with fail
      go_ret
      exact ⟨rfl, hb⟩
    · go_enter Try.func4, Try.ntmps4
      go_wp2_with fail
      go_ret
      exact ⟨rfl, Below.refl _ _⟩
  · go_enter Try.func4, Try.ntmps4
    go_wp2_with fail
    go_ret
    exact ⟨rfl, Below.refl _ _⟩
end Go.Proofs.Ytpgpfdlbklccdaa
