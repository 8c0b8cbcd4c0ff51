/- Contracts: the reference's functions on conditions and relations. -/
import Derived.Test.YtihmdfhgkfgmnaaDig
namespace Go.Proofs.Ytihmdfhgkfgmnaa
set_option linter.unusedVariables false
set_option linter.unusedSimpArgs false
open Go.RowKit Go.Shelf
set_option maxRecDepth 100000
set_option maxHeartbeats 1000000

theorem spec_l1In (n a b : Int) (w : World) : Calls Try.prog 141 #[.int .i64 n, .int .i64 a, .int .i64 b] w fun e w' => e = .returned (.bool (decide (a ≤ n) && decide (n ≤ b))) ∧ w = w' := by
  by_cases h1 : a ≤ n
  · have e1 : decide (a ≤ n) = true := by simpa using h1
    go_enter Try.func141, Try.ntmps141
    go_wp2_with fail
    go_ret
    exact ⟨ret_bool (by simp [h1]), rfl⟩
  · have e1 : decide (a ≤ n) = false := by simpa using h1
    go_enter Try.func141, Try.ntmps141
    go_wp2_with fail
    go_ret
    exact ⟨rfl, rfl⟩

/-- is p a condition? -/
def isC (p : Int) : Bool := decide (0 ≤ p) && decide (p ≤ 15)
theorem isC_mk {p : Int} (h : 0 ≤ p ∧ p ≤ 15) : isC p = true := by simp [isC, h.1, h.2]
theorem isC_get {p : Int} (h : isC p = true) : 0 ≤ p ∧ p ≤ 15 := by simpa [isC] using h

theorem spec_l1Has (p : Int) (k : Nat) (w : World) (hk : k ≤ 63) : Calls Try.prog 45 #[.int .i64 p, .int .i64 k] w fun e w' => e = .returned (.bool (has p k)) ∧ w = w' := by
  go_enter Try.func45, Try.ntmps45
  go_wp2_with fail
  go_ret
  exact ⟨rfl, rfl⟩

theorem spec_RelValid (s : ByteArray) (w : World) (hs : s.size ≤ 4611686018427387904) : Calls Try.prog 93 #[.string s] w fun e w' => e = .returned (.bool (okTxt 4 s)) ∧ w = w' := by
  go_enter Try.func93, Try.ntmps93
  go_wp2_with fail
  refine (spec_l2Digits _ _ _ hs (by decide)).mono ?_
  rintro e w' ⟨rfl, rfl⟩
  go_wp2_with fail
  go_ret
  exact ⟨rfl, rfl⟩

theorem spec_l2To (s : ByteArray) (n k : Nat) (w : World) (H : Hid (okTxt n s = true)) (hk : k < n) : Calls Try.prog 95 #[.string s, .int .i64 k] w fun e w' => e = .returned (.int .i64 (val s k)) ∧ w = w' := by
  have hsz : k < s.size := by rw [okTxt_size H.out]; exact hk
  go_enter Try.func95, Try.ntmps95
  go_wp2_with fail
  refine (spec_l2Hex _ _).mono ?_
  rintro e w' ⟨rfl, rfl⟩
  go_wp2_with fail
  go_ret
  exact ⟨ret_int (okTxt_val H.out k hk).symm, rfl⟩

theorem spec_l2Image (r : ByteArray) (p : Int) (w : World) (H : Hid (okTxt 4 r = true)) : Calls Try.prog 98 #[.string r, .int .i64 p] w fun e w' => e = .returned (.int .i64 (img (val r) p)) ∧ w = w' := by
  go_enter Try.func98, Try.ntmps98
  go_wp2_with fail
  go_loop [5, 6] (fun o i => ∃ k : Nat, k ≤ 4 ∧ i = .int .i64 k ∧ o = .int .i64 (orf (has p) (val r) k)) (fun _ i => 4 - (intOf i).toNat)
  case atStart => exact ⟨0, by omega, rfl, rfl⟩
  case round =>
    obtain ⟨k, hk, rfl, rfl⟩ := hrel
    by_cases hlt : k < 4
    · cases hb : has p k
      all_goals
        have H1 := Lib.hid hb; clear hb
        go_wp2_with fail
        refine (spec_l1Has _ _ _ (by omega)).mono ?_
        rintro e w' ⟨rfl, rfl⟩
        rw [H1.out]
      · go_wp2_with fail
        go_round
        case rel => exact ⟨k + 1, by omega, by go_num, by simp [orf, H1.out]⟩
        case measure => simp [intOf]; omega
      · go_wp2_with fail
        refine (spec_l2To _ 4 _ _ H hlt).mono ?_
        rintro e w' ⟨rfl, rfl⟩
        go_wp2_with fail
        go_round
        case rel => exact ⟨k + 1, by omega, by go_num, by simp [orf, H1.out]⟩
        case measure => simp [intOf]; omega
    · obtain rfl : k = 4 := by omega
      go_wp2_with fail
      go_ret
      exact ⟨rfl, rfl⟩

theorem spec_l2Diamond (r : ByteArray) (p : Int) (w : World) (H : Hid (okTxt 4 r = true)) : Calls Try.prog 97 #[.string r, .int .i64 p] w fun e w' => e = .returned (.int .i64 (dia (val r) p)) ∧ w = w' := by
  go_enter Try.func97, Try.ntmps97
  go_wp2_with fail
  go_loop [5, 6] (fun o i => ∃ k : Nat, k ≤ 4 ∧ i = .int .i64 k ∧ o = .int .i64 (mk (fun s => bits .and .i64 (val r s) p != 0) k)) (fun _ i => 4 - (intOf i).toNat)
  case atStart => exact ⟨0, by omega, rfl, rfl⟩
  case round =>
    obtain ⟨k, hk, rfl, rfl⟩ := hrel
    by_cases hlt : k < 4
    · cases hb : (bits .and .i64 (val r k) p != 0)
      all_goals
        have H1 := Lib.hid hb; clear hb
        go_wp2_with fail
        refine (spec_l2To _ 4 _ _ H hlt).mono ?_
        rintro e w' ⟨rfl, rfl⟩
        have e1 := H1.out
        go_wp2_with fail
        go_round
        case rel => exact ⟨k + 1, by omega, by go_num, by simp [mk, orf, H1.out, sh]⟩
        case measure => simp [intOf]; omega
    · obtain rfl : k = 4 := by omega
      go_wp2_with fail
      go_ret
      exact ⟨rfl, rfl⟩

theorem spec_l2Turn (r : ByteArray) (w : World) (H : Hid (okTxt 4 r = true)) : Calls Try.prog 100 #[.string r] w fun e w' => e = .returned (.string (txt 4 fun t => dia (val r) (sh t))) ∧ w = w' := by
  go_enter Try.func100, Try.ntmps100
  go_wp2_with fail
  go_loop [3, 4] (fun o i => ∃ k : Nat, k ≤ 4 ∧ i = .int .i64 k ∧ o = .string (txt k fun t => dia (val r) (sh t))) (fun _ i => 4 - (intOf i).toNat)
  case atStart => exact ⟨0, by omega, rfl, rfl⟩
  case round =>
    obtain ⟨k, hk, rfl, rfl⟩ := hrel
    by_cases hlt : k < 4
    · go_wp2_with fail
      refine (spec_l2Diamond _ _ _ H).mono ?_
      rintro e w' ⟨rfl, rfl⟩
      go_wp2_with fail
      refine (spec_l2Digit _ _ (dia_ok _ _).1 (dia_ok _ _).2).mono ?_
      rintro e w' ⟨rfl, rfl⟩
      go_wp2_with fail
      go_round
      case rel => exact ⟨k + 1, by omega, by go_num, congrArg Value.string (txt_succ k fun t => dia (val r) (sh t))⟩
      case measure => simp [intOf]; omega
    · obtain rfl : k = 4 := by omega
      go_wp2_with fail
      go_ret
      exact ⟨rfl, rfl⟩

theorem spec_l2Compose (r q : ByteArray) (w : World) (H : Hid (okTxt 4 r = true)) (H2 : Hid (okTxt 4 q = true)) : Calls Try.prog 99 #[.string r, .string q] w fun e w' => e = .returned (.string (txt 4 fun s => img (val q) (val r s))) ∧ w = w' := by
  go_enter Try.func99, Try.ntmps99
  go_wp2_with fail
  go_loop [5, 6] (fun o i => ∃ k : Nat, k ≤ 4 ∧ i = .int .i64 k ∧ o = .string (txt k fun s => img (val q) (val r s))) (fun _ i => 4 - (intOf i).toNat)
  case atStart => exact ⟨0, by omega, rfl, rfl⟩
  case round =>
    obtain ⟨k, hk, rfl, rfl⟩ := hrel
    by_cases hlt : k < 4
    · go_wp2_with fail
      refine (spec_l2To _ 4 _ _ H hlt).mono ?_
      rintro e w' ⟨rfl, rfl⟩
      go_wp2_with fail
      refine (spec_l2Image _ _ _ H2).mono ?_
      rintro e w' ⟨rfl, rfl⟩
      go_wp2_with fail
      refine (spec_l2Digit _ _ (img_ok (val_ok _) _).1 (img_ok (val_ok _) _).2).mono ?_
      rintro e w' ⟨rfl, rfl⟩
      go_wp2_with fail
      go_round
      case rel => exact ⟨k + 1, by omega, by go_num, congrArg Value.string (txt_succ k fun s => img (val q) (val r s))⟩
      case measure => simp [intOf]; omega
    · obtain rfl : k = 4 := by omega
      go_wp2_with fail
      go_ret
      exact ⟨rfl, rfl⟩

end Go.Proofs.Ytihmdfhgkfgmnaa
