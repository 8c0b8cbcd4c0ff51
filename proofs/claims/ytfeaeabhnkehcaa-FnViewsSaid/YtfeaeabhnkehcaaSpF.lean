/- Contracts: the reference's families and what is chosen beside. -/
import Derived.Test.YtfeaeabhnkehcaaSp11
import Derived.Test.YtfeaeabhnkehcaaFam
namespace Go.Proofs.Ytfeaeabhnkehcaa
set_option linter.unusedVariables false
set_option linter.unusedSimpArgs false
open Go.RowKit Go.Shelf
set_option maxRecDepth 100000
set_option maxHeartbeats 1000000

theorem spec_FamilyValid (f : Int) (w : World) (_hf : 0 ≤ f ∧ f ≤ 65535) : Calls Try.prog 151 #[.int .i64 f] w fun e w' => e = .returned (.bool true) ∧ w = w' := by
  go_enter Try.func151, Try.ntmps151
  go_wp2_with fail
  refine (spec_l1In _ _ _ _).mono ?_
  rintro e w' ⟨rfl, rfl⟩
  go_wp2_with fail
  go_ret
  exact ⟨ret_bool (by simp), rfl⟩

theorem spec_l1Up (f : Int) (w : World) : Calls Try.prog 152 #[.int .i64 f] w fun e w' => e = .returned (.int .i64 (closeF f)) ∧ w = w' := by
  go_enter Try.func152, Try.ntmps152
  go_wp2_with fail
  go_loop [3, 4] (fun o i => ∃ k : Nat, k ≤ 16 ∧ i = .int .i64 k ∧ o = .int .i64 (upS f k)) (fun _ i => 16 - (intOf i).toNat)
  case atStart => exact ⟨0, by omega, rfl, rfl⟩
  case round =>
    obtain ⟨k, hk, rfl, rfl⟩ := hrel
    by_cases hlt : k < 16
    · have ek : decide ((k : Int) < 16) = true := by rw [decide_eq_true_eq]; omega
      cases hb : has f k
      · have H1 := Lib.hid hb; clear hb
        go_wp2_with fail
        go_loop [3, 5] (fun o i => i = .int .i64 (0 : Nat) ∧ o = .int .i64 (upS f k)) (fun _ _ => 0)
        case atStart => exact ⟨rfl, rfl⟩
        case round =>
          obtain ⟨rfl, rfl⟩ := hrel
          go_wp2_with fail
          refine (spec_l1Has _ _ _ (by omega)).mono ?_
          rintro e w' ⟨rfl, rfl⟩
          rw [H1.out]
          go_wp2_with fail
          go_round
          case rel => exact ⟨k + 1, by omega, by go_num, by simp [upS, H1.out]⟩
          case measure => simp [intOf]; omega
      · have H1 := Lib.hid hb; clear hb
        go_wp2_with fail
        go_loop [3, 5] (fun o i => ∃ j : Nat, j ≤ 16 ∧ i = .int .i64 j ∧ o = .int .i64 (upIn k (upS f k) j)) (fun _ i => 16 - (intOf i).toNat)
        case atStart => exact ⟨0, by omega, rfl, rfl⟩
        case round =>
          obtain ⟨j, hj, rfl, rfl⟩ := hrel
          by_cases hjt : j < 16
          · cases hz : (bits .andNot .i64 (k : Int) (j : Int) == 0)
            all_goals
              have HZ := Lib.hid hz
              go_wp2_with fail
              refine (spec_l1Has _ _ _ (by omega)).mono ?_
              rintro e w' ⟨rfl, rfl⟩
              rw [H1.out]
              go_wp2_with fail
              go_round
              case rel => exact ⟨j + 1, by omega, by go_num, by simp [upIn, HZ.out, sh]⟩
              case measure => simp [intOf]; omega
          · obtain rfl : j = 16 := by omega
            go_wp2_with fail
            go_round
            case rel => exact ⟨k + 1, by omega, by go_num, by simp [upS, H1.out]⟩
            case measure => simp [intOf]; omega
    · obtain rfl : k = 16 := by omega
      go_wp2_with fail
      go_ret
      exact ⟨ret_int (upS_close f), rfl⟩

theorem spec_TransOf (g cap : Nat) (fam : Nat → Int) (hf : ∀ s, Fit 16 (fam s)) (w : World) (hc : ∀ s, s < 4 → w.cell? ⟨g, s, none⟩ = some (.int .i64 (fam s))) :
    Calls Try.prog 147 #[.slice (some ⟨g, 0, none⟩) 4 cap] w fun e w' => e = .returned (.tuple #[.string (txt 16 (transOfT fam)), .bool true]) ∧ w = w' := by
  have HC := Lib.hid hc; clear hc
  go_enter Try.func147, Try.ntmps147
  go_wp2_with fail
  go_loop [4] (fun i => ∃ k : Nat, k ≤ 4 ∧ i = .int .i64 k) (fun i => 4 - (intOf i).toNat)
  case atStart => exact ⟨0, by omega, rfl⟩
  case round =>
    obtain ⟨k, hk, rfl⟩ := hrel
    by_cases hlt : k < 4
    · have h1 := HC.out k hlt
      go_wp2_with fail
      refine (spec_FamilyValid _ _ (fit16_le (hf k))).mono ?_
      rintro e w' ⟨rfl, rfl⟩
      go_wp2_with fail
      go_round
      case rel => exact ⟨k + 1, by omega, by go_num⟩
      case measure => simp [intOf]; omega
    · obtain rfl : k = 4 := by omega
      go_wp2_with fail
      go_loop [5, 6] (fun o i => ∃ k : Nat, k ≤ 16 ∧ i = .int .i64 k ∧ o = .string (txt k (transOfT fam))) (fun _ i => 16 - (intOf i).toNat)
      case atStart => exact ⟨0, by omega, rfl, rfl⟩
      case round =>
        obtain ⟨k, hk, rfl, rfl⟩ := hrel
        by_cases hlt : k < 16
        · have ek : decide ((k : Int) < 16) = true := by rw [decide_eq_true_eq]; omega
          go_wp2_with fail
          go_loop [7, 8] (fun o i => ∃ j : Nat, j ≤ 4 ∧ i = .int .i64 j ∧ o = .int .i64 (mk (fun s => has (closeF (fam s)) k) j)) (fun _ i => 4 - (intOf i).toNat)
          case atStart => exact ⟨0, by omega, rfl, rfl⟩
          case round =>
            obtain ⟨j, hj, rfl, rfl⟩ := hrel
            by_cases hjt : j < 4
            · have h1 := HC.out j hjt
              cases hb : has (closeF (fam j)) k
              all_goals
                have H1 := Lib.hid hb; clear hb
                go_wp2_with fail
                refine (spec_l1Up _ _).mono ?_
                rintro e w' ⟨rfl, rfl⟩
                go_wp2_with fail
                refine (spec_l1Has _ _ _ (by omega)).mono ?_
                rintro e w' ⟨rfl, rfl⟩
                rw [H1.out]
                go_wp2_with fail
                go_round
                case rel => exact ⟨j + 1, by omega, by go_num, by simp [mk, orf, H1.out, sh]⟩
                case measure => simp [intOf]; omega
            · obtain rfl : j = 4 := by omega
              have hcc := Lib.hid (transOfT_ok fam k)
              go_wp2_with fail
              refine (spec_l2Digit _ _ hcc.out.1 hcc.out.2).mono ?_
              rintro e w' ⟨rfl, rfl⟩
              go_wp2_with fail
              go_round
              case rel => exact ⟨k + 1, by omega, by go_num, congrArg Value.string (txt_succ k (transOfT fam))⟩
              case measure => simp [intOf]; omega
        · obtain rfl : k = 16 := by omega
          go_wp2_with fail
          go_ret2
          exact ⟨rfl, rfl⟩

theorem int_info3 : (Try.prog.info? 3).map (fun i => (i.zero, i.size, i.bytes)) = some (some (.int .i64 0), 1, 8) := by kernel_rfl
def missL (t u : Nat → Int) (k : Nat) : List Value := (List.range k).map fun s => .int .i64 (missT t u s)
theorem missL_succ (t u : Nat → Int) (k : Nat) : missL t u (k + 1) = missL t u k ++ [.int .i64 (missT t u k)] := by simp [missL, List.range_succ]
theorem owned_slice {w : World} {base : Nat} {e : TypeId} {v : Value} {n : Nat} {t u : Nat → Int} (h : w.ownsRow base e 1 v n (missL t u n)) (hne : v ≠ .slice none 0 0) :
    ∃ g cap, v = .slice (some ⟨g, 0, none⟩) n cap ∧ ∀ s, s < n → w.cell? ⟨g, s, none⟩ = some (.int .i64 (missT t u s)) := by
  rcases h.2 with ⟨rfl, _⟩ | ⟨g, cap, cur, rfl, _⟩
  · exact absurd rfl hne
  · refine ⟨g, cap, rfl, fun s hs => ?_⟩
    have h1 := World.ownsRow.cells h (g := g) rfl s (.int .i64 (missT t u s)) (by simp [missL, hs])
    have h2 : (⟨g, 0, none⟩ : Addr).add s = ⟨g, s, none⟩ := by unfold Addr.add; split <;> simp_all
    rwa [h2] at h1

end Go.Proofs.Ytfeaeabhnkehcaa
