/- The program's choices beside return what the reference's return: the laws' walks. -/
import Derived.Test.YtlmpnbmifcelkaaSpF
import Derived.Test.YtlmpnbmifcelkaaImF
namespace Go.Proofs.Ytlmpnbmifcelkaa
open Go.RowKit Go.Shelf
set_option maxRecDepth 100000
set_option maxHeartbeats 1000000

theorem walk_ExactBesideAngel (r t : ByteArray) (w : World) (h0 : r.size ≤ maxLen) (h1 : t.size ≤ maxLen) :
    Calls Try.prog 3 #[.string r, .string t] w fun e w' => e = .returned (.bool true) ∧ Below w.heap.size w w' := by
  unfold maxLen at h0 h1
  by_cases hs : r.size ≤ 1048576
  · by_cases hq : t.size ≤ 1048576
    · go_enter Try.func3, Try.ntmps3
      go_wp2_with fail
      refine (spec_BesideAngel _ _ _ (by omega) (by omega)).mono ?_
      rintro e w1 ⟨rfl, hb1⟩
      go_wp2_with fail
      refine (impl_BesideAngel _ _ (by omega) (by omega) _).mono ?_
      rintro e w' ⟨rfl, hb⟩
      go_wp2_with fail
      go_ret
      exact ⟨rfl, below_step hb1 hb⟩
    · go_enter Try.func3, Try.ntmps3
      go_wp2_with fail
      go_ret
      exact ⟨rfl, Below.refl _ _⟩
  · go_enter Try.func3, Try.ntmps3
    go_wp2_with fail
    go_ret
    exact ⟨rfl, Below.refl _ _⟩

theorem walk_ExactBesideDemon (r t : ByteArray) (w : World) (h0 : r.size ≤ maxLen) (h1 : t.size ≤ maxLen) :
    Calls Try.prog 4 #[.string r, .string t] w fun e w' => e = .returned (.bool true) ∧ Below w.heap.size w w' := by
  unfold maxLen at h0 h1
  by_cases hs : r.size ≤ 1048576
  · by_cases hq : t.size ≤ 1048576
    · go_enter Try.func4, Try.ntmps4
      go_wp2_with fail
      refine (spec_BesideDemon _ _ _ (by omega) (by omega)).mono ?_
      rintro e w1 ⟨rfl, hb1⟩
      go_wp2_with fail
      refine (impl_BesideDemon _ _ (by omega) (by omega) _).mono ?_
      rintro e w' ⟨rfl, hb⟩
      go_wp2_with fail
      go_ret
      exact ⟨rfl, below_step hb1 hb⟩
    · go_enter Try.func4, Try.ntmps4
      go_wp2_with fail
      go_ret
      exact ⟨rfl, Below.refl _ _⟩
  · go_enter Try.func4, Try.ntmps4
    go_wp2_with fail
    go_ret
    exact ⟨rfl, Below.refl _ _⟩

end Go.Proofs.Ytlmpnbmifcelkaa
