/- Contracts: the program's functions on conditions and relations. -/
import Derived.Test.YtlmpnbmifcelkaaSp2
import Derived.RegionTactic
import Derived.BigRegion
import Derived.Deep.QuietTactic
import Derived.BigQuiet
namespace Go.Proofs.Ytlmpnbmifcelkaa
open Go.RowKit Go.Shelf
set_option maxRecDepth 100000
set_option maxHeartbeats 1000000

theorem impl_states (g : FuncId) (bv lb : Array Value) (b : Nat → Bool) (w : World) (eg : Enters Try.prog g) (hg : AsksP Try.prog g bv lb 4 b w) :
    Calls Try.prog 38 #[.func (.func g) bv lb] w fun e w' => e = .returned (.int .i64 (mk b 4)) ∧ Below w.heap.size w w' := by
  have eg' : ∀ args w, (callFunc g args).run Try.prog w = .ok (.enter g args) w := eg
  go_enter Try.func38, Try.ntmps38
  go_wp2_with fail
  go_loopw [3, 5] (fun o i wr => ∃ k : Nat, k ≤ 4 ∧ i = .int .i64 k ∧ o = .int .i64 (mk b k) ∧ Below w.heap.size w wr) (fun _ i _ => 4 - (intOf i).toNat)
  case atStart => exact ⟨0, by omega, rfl, rfl, Below.refl _ _⟩
  case round =>
    obtain ⟨k, hk, rfl, rfl, hb⟩ := hrel
    by_cases hlt : k < 4
    · cases hbk : b k
      all_goals
        have H1 := Lib.hid hbk; clear hbk
        go_wp2_with fail
        refine (hg _ k hlt hb).mono ?_
        rintro e w1 ⟨rfl, hb1⟩
        rw [H1.out]
        go_wp2_with fail
        go_roundw
        case rel => exact ⟨k + 1, by omega, by go_num, by simp [mk, orf, H1.out, sh], hb.trans (hb1.mono hb.size)⟩
        case measure => simp [intOf]; omega
    · obtain rfl : k = 4 := by omega
      go_wp2_with fail
      go_ret
      exact ⟨rfl, hb⟩

end Go.Proofs.Ytlmpnbmifcelkaa
