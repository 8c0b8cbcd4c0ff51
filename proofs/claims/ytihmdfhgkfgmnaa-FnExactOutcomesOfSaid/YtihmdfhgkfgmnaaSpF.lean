/- Contracts: the reference's families and what is chosen beside. -/
import Derived.Test.YtihmdfhgkfgmnaaSp11
import Derived.Test.YtihmdfhgkfgmnaaFam
namespace Go.Proofs.Ytihmdfhgkfgmnaa
set_option linter.unusedVariables false
set_option linter.unusedSimpArgs false
open Go.RowKit Go.Shelf
set_option maxRecDepth 100000
set_option maxHeartbeats 1000000

theorem spec_l10Family (t : ByteArray) (s : Nat) (hs : s < 4) (w : World) (H : Hid (okTxt 16 t = true)) : Calls Try.prog 47 #[.string t, .int .i64 s] w fun e w' => e = .returned (.int .i64 (famT (val t) s)) ∧ w = w' := by
  go_enter Try.func47, Try.ntmps47
  go_wp2_with fail
  go_loop [5, 6] (fun o i => ∃ k : Nat, k ≤ 16 ∧ i = .int .i64 k ∧ o = .int .i64 (mk (fun p => has (val t p) s) k)) (fun _ i => 16 - (intOf i).toNat)
  case atStart => exact ⟨0, by omega, rfl, rfl⟩
  case round =>
    obtain ⟨k, hk, rfl, rfl⟩ := hrel
    by_cases hlt : k < 16
    · cases hb : has (val t k) s
      all_goals
        have H1 := Lib.hid hb; clear hb
        go_wp2_with fail
        refine (spec_l3Value _ _ _ H hlt).mono ?_
        rintro e w' ⟨rfl, rfl⟩
        go_wp2_with fail
        refine (spec_l1Has _ _ _ (by omega)).mono ?_
        rintro e w' ⟨rfl, rfl⟩
        rw [H1.out]
        go_wp2_with fail
        go_round
        case rel => exact ⟨k + 1, by omega, by go_num, by simp [mk, orf, H1.out, sh]⟩
        case measure => simp [intOf]; omega
    · obtain rfl : k = 16 := by omega
      go_wp2_with fail
      go_ret
      exact ⟨rfl, rfl⟩

theorem int_info3 : (Try.prog.info? 3).map (fun i => (i.zero, i.size, i.bytes)) = some (some (.int .i64 0), 1, 8) := by kernel_rfl
def missL (t u : Nat → Int) (k : Nat) : List Value := (List.range k).map fun s => .int .i64 (missT t u s)
theorem missL_succ (t u : Nat → Int) (k : Nat) : missL t u (k + 1) = missL t u k ++ [.int .i64 (missT t u k)] := by simp [missL, List.range_succ]
theorem owned_slice {w : World} {base : Nat} {e : TypeId} {v : Value} {n : Nat} {t u : Nat → Int} (h : w.ownsRow base e 1 v n (missL t u n)) (hne : v ≠ .slice none 0 0) :
    ∃ g cap, v = .slice (some ⟨g, 0, none⟩) n cap ∧ ∀ s, s < n → w.cell? ⟨g, s, none⟩ = some (.int .i64 (missT t u s)) := by
  rcases h.2 with ⟨rfl, _⟩ | ⟨g, cap, cur, rfl, _⟩
  · exact absurd rfl hne
  · refine ⟨g, cap, rfl, fun s hs => ?_⟩
    have h1 := World.ownsRow.cells h (g := g) rfl s (.int .i64 (missT t u s)) (by simp [missL, hs])
    have h2 : (⟨g, 0, none⟩ : Addr).add s = ⟨g, s, none⟩ := by unfold Addr.add; split <;> simp_all
    rwa [h2] at h1

end Go.Proofs.Ytihmdfhgkfgmnaa
