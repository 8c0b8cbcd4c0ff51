/- Contracts: the reference's functions on transformers. -/
import Derived.Test.YtihmdfhgkfgmnaaSp2b
namespace Go.Proofs.Ytihmdfhgkfgmnaa
set_option linter.unusedVariables false
set_option linter.unusedSimpArgs false
open Go.RowKit Go.Shelf
set_option maxRecDepth 100000
set_option maxHeartbeats 1000000

theorem spec_l3Value (s : ByteArray) (k : Nat) (w : World) (H : Hid (okTxt 16 s = true)) (hk : k < 16) : Calls Try.prog 109 #[.string s, .int .i64 k] w fun e w' => e = .returned (.int .i64 (val s k)) ∧ w = w' := by
  have hsz : k < s.size := by rw [okTxt_size H.out]; exact hk
  go_enter Try.func109, Try.ntmps109
  go_wp2_with fail
  refine (spec_l2Hex _ _).mono ?_
  rintro e w' ⟨rfl, rfl⟩
  go_wp2_with fail
  go_ret
  exact ⟨ret_int (okTxt_val H.out k hk).symm, rfl⟩
theorem spec_l3ValueI (s : ByteArray) (p : Int) (w : World) (H : Hid (okTxt 16 s = true)) (hp : C p) : Calls Try.prog 109 #[.string s, .int .i64 p] w fun e w' => e = .returned (.int .i64 (val s p.toNat)) ∧ w = w' := by
  have h := spec_l3Value s p.toNat w H (by have := hp.2; omega)
  rwa [Int.toNat_of_nonneg hp.1] at h

theorem spec_l3Monotone (s : ByteArray) (w : World) (H : Hid (okTxt 16 s = true)) : Calls Try.prog 152 #[.string s] w fun e w' => e = .returned (.bool (mono (val s))) ∧ w = w' := by
  go_enter Try.func152, Try.ntmps152
  go_wp2_with fail
  go_loop [3] (fun i => ∃ k : Nat, k ≤ 16 ∧ i = .int .i64 k ∧ Hid (∀ p, p < k → ∀ q, q < 16 → monoAt (val s) p q = true)) (fun i => 16 - (intOf i).toNat)
  case atStart => exact ⟨0, by omega, rfl, fun j hj => by omega⟩
  case round =>
    obtain ⟨k, hk, rfl, HK⟩ := hrel
    by_cases hlt : k < 16
    · have ek : decide ((k : Int) < 16) = true := by rw [decide_eq_true_eq]; omega
      go_wp2_with fail
      go_loop [4] (fun i => ∃ j : Nat, j ≤ 16 ∧ i = .int .i64 j ∧ Hid (∀ q, q < j → monoAt (val s) k q = true)) (fun i => 16 - (intOf i).toNat)
      case atStart => exact ⟨0, by omega, rfl, fun j hj => by omega⟩
      case round =>
        obtain ⟨j, hj, rfl, HJ⟩ := hrel
        by_cases hjt : j < 16
        · cases h1 : (bits .andNot .i64 (k : Int) (j : Int) == 0)
          · have HM : Hid (monoAt (val s) k j = true) := by show monoAt (val s) k j = true; simp [monoAt, h1]
            go_wp2_with fail
            go_round
            case rel => exact ⟨j + 1, by omega, by go_num, fun q hq => by
              rcases Nat.lt_or_ge q j with h | h
              · exact HJ.out q h
              · obtain rfl : q = j := by omega
                exact HM.out⟩
            case measure => simp [intOf]; omega
          · cases h2 : (bits .andNot .i64 (val s k) (val s j) != 0)
            · have HM : Hid (monoAt (val s) k j = true) := by show monoAt (val s) k j = true; simp [monoAt, h2]
              go_wp2_with fail
              refine (spec_l3Value _ _ _ H hlt).mono ?_
              rintro e w' ⟨rfl, rfl⟩
              go_wp2_with fail
              refine (spec_l3Value _ _ _ H hjt).mono ?_
              rintro e w' ⟨rfl, rfl⟩
              go_wp2_with fail
              go_round
              case rel => exact ⟨j + 1, by omega, by go_num, fun q hq => by
                rcases Nat.lt_or_ge q j with h | h
                · exact HJ.out q h
                · obtain rfl : q = j := by omega
                  exact HM.out⟩
              case measure => simp [intOf]; omega
            · have HM : Hid (mono (val s) = false) := by
                show mono (val s) = false
                rw [Bool.eq_false_iff]; intro h
                have := mono_at h hlt hjt
                simp [monoAt, h1, h2] at this
              go_wp2_with fail
              refine (spec_l3Value _ _ _ H hlt).mono ?_
              rintro e w' ⟨rfl, rfl⟩
              go_wp2_with fail
              refine (spec_l3Value _ _ _ H hjt).mono ?_
              rintro e w' ⟨rfl, rfl⟩
              go_wp2_with fail
              go_ret
              exact ⟨ret_bool HM.out.symm, rfl⟩
        · obtain rfl : j = 16 := by omega
          go_wp2_with fail
          go_round
          case rel => exact ⟨k + 1, by omega, by go_num, fun p hp => by
            rcases Nat.lt_or_ge p k with h | h
            · exact HK.out p h
            · obtain rfl : p = k := by omega
              exact HJ.out⟩
          case measure => simp [intOf]; omega
    · obtain rfl : k = 16 := by omega
      go_wp2_with fail
      go_ret
      exact ⟨ret_bool (mono_of HK.out).symm, rfl⟩

theorem spec_MonotoneTable (s : ByteArray) (w : World) (hs : s.size ≤ 4611686018427387904) : Calls Try.prog 151 #[.string s] w fun e w' => e = .returned (.bool (okTr s)) ∧ w = w' := by
  cases hb : okTxt 16 s
  all_goals
    have H := Lib.hid hb; clear hb
    go_enter Try.func151, Try.ntmps151
    go_wp2_with fail
    refine (spec_l2Digits _ _ _ hs (by decide)).mono ?_
    rintro e w' ⟨rfl, rfl⟩
    rw [show (16 : Int).toNat = 16 from rfl, H.out]
    go_wp2_with fail
  · go_ret
    exact ⟨ret_bool (by simp [okTr, H.out]), rfl⟩
  · refine (spec_l3Monotone _ _ H).mono ?_
    rintro e w' ⟨rfl, rfl⟩
    go_wp2_with fail
    go_ret
    exact ⟨ret_bool (by simp [okTr, H.out]), rfl⟩

theorem spec_TransValid (s : ByteArray) (w : World) (hs : s.size ≤ 4611686018427387904) : Calls Try.prog 148 #[.string s] w fun e w' => e = .returned (.bool (okTr s)) ∧ w = w' := by
  go_enter Try.func148, Try.ntmps148
  go_wp2_with fail
  refine (spec_MonotoneTable _ _ hs).mono ?_
  rintro e w' ⟨rfl, rfl⟩
  go_wp2_with fail
  go_ret
  exact ⟨rfl, rfl⟩

theorem spec_l3Both (t u : ByteArray) (w : World) (ht : t.size ≤ 4611686018427387904) (hu : u.size ≤ 4611686018427387904) : Calls Try.prog 128 #[.string t, .string u] w fun e w' => e = .returned (.bool (okTr t && okTr u)) ∧ w = w' := by
  cases hb : okTr t
  all_goals
    have H := Lib.hid hb; clear hb
    go_enter Try.func128, Try.ntmps128
    go_wp2_with fail
    refine (spec_TransValid _ _ ht).mono ?_
    rintro e w' ⟨rfl, rfl⟩
    rw [H.out]
    go_wp2_with fail
  · go_ret
    exact ⟨rfl, rfl⟩
  · refine (spec_TransValid _ _ hu).mono ?_
    rintro e w' ⟨rfl, rfl⟩
    go_wp2_with fail
    go_ret
    exact ⟨rfl, rfl⟩

theorem spec_l3Then (t u : ByteArray) (w : World) (H : Hid (okTxt 16 t = true)) (H2 : Hid (okTxt 16 u = true)) : Calls Try.prog 65 #[.string t, .string u] w fun e w' => e = .returned (.string (txt 16 (thenT (val t) (val u)))) ∧ w = w' := by
  go_enter Try.func65, Try.ntmps65
  go_wp2_with fail
  go_loop [5, 6] (fun o i => ∃ k : Nat, k ≤ 16 ∧ i = .int .i64 k ∧ o = .string (txt k (thenT (val t) (val u)))) (fun _ i => 16 - (intOf i).toNat)
  case atStart => exact ⟨0, by omega, rfl, rfl⟩
  case round =>
    obtain ⟨k, hk, rfl, rfl⟩ := hrel
    by_cases hlt : k < 16
    · go_wp2_with fail
      refine (spec_l3Value _ _ _ H2 hlt).mono ?_
      rintro e w' ⟨rfl, rfl⟩
      go_wp2_with fail
      refine (spec_l3ValueI _ _ _ H (val_ok _ _)).mono ?_
      rintro e w' ⟨rfl, rfl⟩
      go_wp2_with fail
      refine (spec_l2Digit _ _ (val_ok _ _).1 (val_ok _ _).2).mono ?_
      rintro e w' ⟨rfl, rfl⟩
      go_wp2_with fail
      go_round
      case rel => exact ⟨k + 1, by omega, by go_num, congrArg Value.string (txt_succ k (thenT (val t) (val u)))⟩
      case measure => simp [intOf]; omega
    · obtain rfl : k = 16 := by omega
      go_wp2_with fail
      go_ret
      exact ⟨rfl, rfl⟩

theorem spec_l3Join (t u : ByteArray) (w : World) (H : Hid (okTxt 16 t = true)) (H2 : Hid (okTxt 16 u = true)) : Calls Try.prog 72 #[.string t, .string u] w fun e w' => e = .returned (.string (txt 16 (joinT (val t) (val u)))) ∧ w = w' := by
  go_enter Try.func72, Try.ntmps72
  go_wp2_with fail
  go_loop [5, 6] (fun o i => ∃ k : Nat, k ≤ 16 ∧ i = .int .i64 k ∧ o = .string (txt k (joinT (val t) (val u)))) (fun _ i => 16 - (intOf i).toNat)
  case atStart => exact ⟨0, by omega, rfl, rfl⟩
  case round =>
    obtain ⟨k, hk, rfl, rfl⟩ := hrel
    by_cases hlt : k < 16
    · go_wp2_with fail
      refine (spec_l3Value _ _ _ H hlt).mono ?_
      rintro e w' ⟨rfl, rfl⟩
      go_wp2_with fail
      refine (spec_l3Value _ _ _ H2 hlt).mono ?_
      rintro e w' ⟨rfl, rfl⟩
      go_wp2_with fail
      refine (spec_l2Digit _ _ (C.or (val_ok _ _) (val_ok _ _)).1 (C.or (val_ok _ _) (val_ok _ _)).2).mono ?_
      rintro e w' ⟨rfl, rfl⟩
      go_wp2_with fail
      go_round
      case rel => exact ⟨k + 1, by omega, by go_num, congrArg Value.string (txt_succ k (joinT (val t) (val u)))⟩
      case measure => simp [intOf]; omega
    · obtain rfl : k = 16 := by omega
      go_wp2_with fail
      go_ret
      exact ⟨rfl, rfl⟩

theorem spec_l3Dual (t : ByteArray) (w : World) (H : Hid (okTxt 16 t = true)) : Calls Try.prog 69 #[.string t] w fun e w' => e = .returned (.string (txt 16 (dualT (val t)))) ∧ w = w' := by
  go_enter Try.func69, Try.ntmps69
  go_wp2_with fail
  go_loop [3, 4] (fun o i => ∃ k : Nat, k ≤ 16 ∧ i = .int .i64 k ∧ o = .string (txt k (dualT (val t)))) (fun _ i => 16 - (intOf i).toNat)
  case atStart => exact ⟨0, by omega, rfl, rfl⟩
  case round =>
    obtain ⟨k, hk, rfl, rfl⟩ := hrel
    by_cases hlt : k < 16
    · have hc : C (k : Int) := ⟨by omega, by omega⟩
      have hn := Lib.hid (notp_ok hc)
      clear hc
      go_wp2_with fail
      refine (spec_l3ValueI _ _ _ H hn.out).mono ?_
      rintro e w' ⟨rfl, rfl⟩
      go_wp2_with fail
      refine (spec_l2Digit _ _ (notp_ok (val_ok _ _)).1 (notp_ok (val_ok _ _)).2).mono ?_
      rintro e w' ⟨rfl, rfl⟩
      go_wp2_with fail
      go_round
      case rel => exact ⟨k + 1, by omega, by go_num, congrArg Value.string (txt_succ k (dualT (val t)))⟩
      case measure => simp [intOf]; omega
    · obtain rfl : k = 16 := by omega
      go_wp2_with fail
      go_ret
      exact ⟨rfl, rfl⟩

theorem spec_l3Angel (r : ByteArray) (w : World) (H : Hid (okTxt 4 r = true)) : Calls Try.prog 66 #[.string r] w fun e w' => e = .returned (.string (txt 16 (angelT (val r)))) ∧ w = w' := by
  go_enter Try.func66, Try.ntmps66
  go_wp2_with fail
  go_loop [3, 4] (fun o i => ∃ k : Nat, k ≤ 16 ∧ i = .int .i64 k ∧ o = .string (txt k (angelT (val r)))) (fun _ i => 16 - (intOf i).toNat)
  case atStart => exact ⟨0, by omega, rfl, rfl⟩
  case round =>
    obtain ⟨k, hk, rfl, rfl⟩ := hrel
    by_cases hlt : k < 16
    · go_wp2_with fail
      refine (spec_l2Diamond _ _ _ H).mono ?_
      rintro e w' ⟨rfl, rfl⟩
      go_wp2_with fail
      refine (spec_l2Digit _ _ (dia_ok _ _).1 (dia_ok _ _).2).mono ?_
      rintro e w' ⟨rfl, rfl⟩
      go_wp2_with fail
      go_round
      case rel => exact ⟨k + 1, by omega, by go_num, congrArg Value.string (txt_succ k (angelT (val r)))⟩
      case measure => simp [intOf]; omega
    · obtain rfl : k = 16 := by omega
      go_wp2_with fail
      go_ret
      exact ⟨rfl, rfl⟩

theorem spec_RefinesTrans (t u : ByteArray) (w : World) (ht : t.size ≤ 4611686018427387904) (hu : u.size ≤ 4611686018427387904) : Calls Try.prog 64 #[.string t, .string u] w fun e w' => e = .returned (.bool (okTr t && okTr u && refT (val t) (val u))) ∧ w = w' := by
  cases hb : okTr t && okTr u
  · have H := Lib.hid hb; clear hb
    go_enter Try.func64, Try.ntmps64
    go_wp2_with fail
    refine (spec_l3Both _ _ _ ht hu).mono ?_
    rintro e w' ⟨rfl, rfl⟩
    rw [H.out]
    go_wp2_with fail
    go_ret
    exact ⟨rfl, rfl⟩
  · have H := Lib.hid hb; clear hb
    have hh : okTr t = true ∧ okTr u = true := by have := H.out; simpa using this
    have HT := Lib.hid (okTr_txt hh.1)
    have HU := Lib.hid (okTr_txt hh.2)
    clear hh
    go_enter Try.func64, Try.ntmps64
    go_wp2_with fail
    refine (spec_l3Both _ _ _ ht hu).mono ?_
    rintro e w' ⟨rfl, rfl⟩
    rw [H.out]
    go_wp2_with fail
    refine (spec_l3Join _ _ _ HT HU).mono ?_
    rintro e w' ⟨rfl, rfl⟩
    go_wp2_with fail
    go_ret
    refine ⟨ret_bool ?_, rfl⟩
    rw [Bool.true_and, str_beq]
    exact refT_join HU.out
end Go.Proofs.Ytihmdfhgkfgmnaa
