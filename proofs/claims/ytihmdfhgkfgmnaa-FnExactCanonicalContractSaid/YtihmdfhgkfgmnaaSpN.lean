/- Contracts: the reference's canonical contracts. -/
import Derived.Test.YtihmdfhgkfgmnaaSp5d
import Derived.Test.YtihmdfhgkfgmnaaCan
namespace Go.Proofs.Ytihmdfhgkfgmnaa
set_option linter.unusedVariables false
set_option linter.unusedSimpArgs false
open Go.RowKit Go.Shelf
set_option maxRecDepth 100000
set_option maxHeartbeats 1000000

theorem spec_l1Least (f : Int) (hf : Fit 16 f) (w : World) : Calls Try.prog 46 #[.int .i64 f] w fun e w' => e = .returned (.int .i64 (leastF f)) ∧ w = w' := by
  have HF := Lib.hid hf
  clear hf
  go_enter Try.func46, Try.ntmps46
  go_wp2_with fail
  go_loop [3, 4, 5] (fun o i _ => ∃ k : Nat, k ≤ 16 ∧ i = .int .i64 k ∧ o = .int .i64 (downS f k)) (fun _ i _ => 16 - (intOf i).toNat)
  case atStart => exact ⟨0, by omega, rfl, rfl⟩
  case round =>
    obtain ⟨k, hk, rfl, rfl⟩ := hrel
    by_cases hlt : k < 16
    · have ek : decide ((k : Int) < 16) = true := by rw [decide_eq_true_eq]; omega
      go_wp2_with fail
      go_loop [3, 5] (fun o i => ∃ j : Nat, j ≤ 16 ∧ i = .int .i64 j ∧ o = .int .i64 (downIn f k (downS f k) j)) (fun _ i => 16 - (intOf i).toNat)
      case atStart => exact ⟨0, by omega, rfl, rfl⟩
      case round =>
        obtain ⟨j, hj, rfl, rfl⟩ := hrel
        by_cases hjt : j < 16
        · have HX : Hid (downIn f k (downS f k) (j + 1) = if ((k : Int) != (j : Int)) && has f j && (bits .andNot .i64 (j : Int) (k : Int) == 0) then bits .andNot .i64 (downIn f k (downS f k) j) (sh k) else downIn f k (downS f k) j) := rfl
          cases ha : ((k : Int) != (j : Int))
          · have HA := Lib.hid ha
            go_wp2_with fail
            go_round
            case rel => exact ⟨j + 1, by omega, by go_num, by rw [HX.out, HA.out]; rfl⟩
            case measure => simp [intOf]; omega
          · cases hb : has f j
            · have HA := Lib.hid ha
              have HB := Lib.hid hb
              clear hb
              go_wp2_with fail
              refine (spec_l1Has _ _ _ (by omega)).mono ?_
              rintro e w' ⟨rfl, rfl⟩
              rw [HB.out]
              go_wp2_with fail
              go_round
              case rel => exact ⟨j + 1, by omega, by go_num, by rw [HX.out, HA.out, HB.out]; rfl⟩
              case measure => simp [intOf]; omega
            · cases hz : (bits .andNot .i64 (j : Int) (k : Int) == 0)
              all_goals
                have HA := Lib.hid ha
                have HB := Lib.hid hb
                have HZ := Lib.hid hz
                clear hb
                go_wp2_with fail
                refine (spec_l1Has _ _ _ (by omega)).mono ?_
                rintro e w' ⟨rfl, rfl⟩
                rw [HB.out]
                go_wp2_with fail
                go_round
                case rel => exact ⟨j + 1, by omega, by go_num, by rw [HX.out, HA.out, HB.out, HZ.out]; rfl⟩
                case measure => simp [intOf]; omega
        · obtain rfl : j = 16 := by omega
          go_wp2_with fail
          go_round
          case rel => exact ⟨k + 1, by omega, by go_num, rfl⟩
          case measure => simp [intOf]; omega
    · obtain rfl : k = 16 := by omega
      go_wp2_with fail
      go_ret
      exact ⟨ret_int (downS_least HF.out), rfl⟩
theorem spec_CanonicalContract_no (c : ByteArray) (hc : c.size ≤ 4611686018427387904) (w : World) (H : Hid (isCt c = false)) :
    Calls Try.prog 14 #[.string c] w fun e w' => e = .returned (.tuple #[.string ⟨#[]⟩, .bool false]) ∧ w = w' := by
  go_enter Try.func14, Try.ntmps14
  go_wp2_with fail
  refine (spec_ContractValid _ _ hc).mono ?_
  rintro e w' ⟨rfl, rfl⟩
  rw [H.out]
  go_wp2_with fail
  go_ret2
  exact ⟨rfl, rfl⟩
theorem spec_CanonicalContract_yes (t : Ct) (ht : t.WF) (hl : t.len ≤ 200) (w : World) (H : Hid (isCt t.text = true)) :
    Calls Try.prog 14 #[.string t.text] w fun e w' => e = .returned (.tuple #[.string (canonB (startsT t.sem)), .bool true]) ∧ Below w.heap.size w w' := by
  have hc : t.text.size ≤ 4611686018427387904 := by rw [t.text_size]; omega
  have MT := Ct.mon t ht
  have HO : Hid (okTxt 16 (txt 16 t.sem) = true) := hid_txt MT.ok
  have HV := Lib.hid (eq16_txt MT.ok)
  go_enter Try.func14, Try.ntmps14
  go_wp2_with fail
  refine (spec_ContractValid _ _ hc).mono ?_
  rintro e w' ⟨rfl, rfl⟩
  rw [H.out]
  go_wp2_with fail
  refine (spec_l5Trans t ht hl _).mono ?_
  rintro e w1 ⟨rfl, hb1⟩
  go_wp2_with fail
  go_loop [5, 6, 7, 8, 9, 10] (fun o i _ _ _ _ => ∃ j : Nat, j ≤ 16 ∧ i = .int .i64 ((j : Int) - 1) ∧ o = .string ⟨(canL (startsT t.sem) (List.range' j (16 - j))).toArray⟩) (fun _ i _ _ _ _ => (intOf i + 1).toNat)
  case atStart => exact ⟨16, by omega, rfl, rfl⟩
  case round =>
    obtain ⟨j, hj, rfl, rfl⟩ := hrel
    cases j with
    | zero =>
      have hE := canL_all (startsT t.sem)
      have hj0 : (((0 : Nat) : Int) - 1) = -1 := rfl
      rw [hj0]
      simp only [Nat.sub_zero]
      rw [hE]
      by_cases hn : onesB (startsT t.sem) (List.range 16) = []
      · have HC : Hid (canonB (startsT t.sem) = ⟨#[97]⟩) := by show _ = _; unfold canonB; rw [if_pos hn]
        have hjn : joinB (onesB (startsT t.sem) (List.range 16)) = [] := by rw [hn]; rfl
        rw [hjn]
        clear hn hE hjn
        go_wp2_with fail
        go_ret2
        rw [HC.out]
        exact ⟨rfl, hb1⟩
      · have HC : Hid (canonB (startsT t.sem) = ⟨(joinB (onesB (startsT t.sem) (List.range 16))).toArray⟩) := by show _ = _; unfold canonB; rw [if_neg hn]
        have hjn : (joinB (onesB (startsT t.sem) (List.range 16))).isEmpty = false := by
          rw [Bool.eq_false_iff]; exact fun h => hn ((joinB_nil (onesB_ne _ _)).1 (List.isEmpty_iff.1 h))
        clear hn hE
        generalize joinB (onesB (startsT t.sem) (List.range 16)) = J at *
        go_wp2_with fail
        go_ret2
        rw [HC.out]
        exact ⟨rfl, hb1⟩
    | succ n =>
      have hn : n < 16 := by omega
      have hj1 : (((n + 1 : Nat) : Int) - 1) = (n : Int) := by omega
      rw [hj1]
      have hcl := canL_len (startsT t.sem) (List.range' (n + 1) (16 - (n + 1)))
      rw [List.length_range'] at hcl
      have HR := Lib.hid (range'_cons n hn)
      have HCL : Hid (canL (startsT t.sem) (n :: List.range' (n + 1) (16 - (n + 1))) = if startsT t.sem n == 0 then canL (startsT t.sem) (List.range' (n + 1) (16 - (n + 1))) else if canL (startsT t.sem) (List.range' (n + 1) (16 - (n + 1))) = [] then oneB (startsT t.sem) n else 124 :: (oneB (startsT t.sem) n ++ canL (startsT t.sem) (List.range' (n + 1) (16 - (n + 1))))) := rfl
      generalize hA : canL (startsT t.sem) (List.range' (n + 1) (16 - (n + 1))) = A at *
      clear hA
      have en : decide ((n : Int) ≥ 0) = true := by rw [decide_eq_true_eq]; omega
      go_wp2_with fail
      go_loop [7, 8] (fun o i => ∃ k : Nat, k ≤ 4 ∧ i = .int .i64 k ∧ o = .int .i64 (mk (fun s => has (leastF (famT t.sem s)) n) k)) (fun _ i => 4 - (intOf i).toNat)
      case atStart => exact ⟨0, by omega, rfl, rfl⟩
      case round =>
        obtain ⟨k, hk, rfl, rfl⟩ := hrel
        by_cases hlt : k < 4
        · have HFE := Lib.hid (famT_congr HV.out k)
          cases hb : has (leastF (famT t.sem k)) n
          all_goals
            have H1 := Lib.hid hb; clear hb
            go_wp2_with fail
            refine (spec_l10Family _ _ hlt _ HO).mono ?_
            rintro e w' ⟨rfl, rfl⟩
            rw [HFE.out]
            go_wp2_with fail
            refine (spec_l1Least _ (famT_fit _ _) _).mono ?_
            rintro e w' ⟨rfl, rfl⟩
            go_wp2_with fail
            refine (spec_l1Has _ _ _ (by omega)).mono ?_
            rintro e w' ⟨rfl, rfl⟩
            rw [H1.out]
            go_wp2_with fail
            go_round
            case rel => exact ⟨k + 1, by omega, by go_num, by simp [mk, orf, H1.out, sh]⟩
            case measure => simp [intOf]; omega
        · obtain rfl : k = 4 := by omega
          have hsc := startsT_c t.sem n
          change C (mk (fun s => has (leastF (famT t.sem s)) n) 4) at hsc
          have HSE : Hid (startsT t.sem n = mk (fun s => has (leastF (famT t.sem s)) n) 4) := rfl
          generalize hM : mk (fun s => has (leastF (famT t.sem s)) n) 4 = M at *
          clear hM
          have HM := Lib.hid hsc
          have hn0 : (0 : Int) ≤ (n : Int) := by omega
          have hn1 : (n : Int) ≤ 15 := by omega
          cases hz : (M == 0)
          · have HZ := Lib.hid hz
            clear hsc
            cases hAd : A.isEmpty
            all_goals
              have HD := Lib.hid hAd
              go_wp2_with fail
              refine (spec_l2Digit _ _ hn0 hn1).mono ?_
              rintro e w' ⟨rfl, rfl⟩
              go_wp2_with fail
              refine (spec_l2Digit _ _ HM.out.1 HM.out.2).mono ?_
              rintro e w' ⟨rfl, rfl⟩
              go_wp2_with fail
              go_round
              case measure => simp [intOf]
            · refine ⟨n, by omega, by go_num, ?_⟩
              rw [HR.out, HCL.out, HSE.out, HZ.out, if_neg (by decide), if_neg (by intro h; have := HD.out; rw [h] at this; cases this)]
              unfold oneB
              rw [HSE.out]
              refine congrArg Value.string ?_
              apply ByteArray.ext; apply Array.ext'
              simp [dgs, ByteArray.data_append]
            · refine ⟨n, by omega, by go_num, ?_⟩
              rw [HR.out, HCL.out, HSE.out, HZ.out, if_neg (by decide), if_pos (List.isEmpty_iff.1 HD.out)]
              unfold oneB
              rw [HSE.out]
              refine congrArg Value.string ?_
              apply ByteArray.ext; apply Array.ext'
              simp [dgs, ByteArray.data_append]
          · have HZ := Lib.hid hz
            clear hsc
            go_wp2_with fail
            go_round
            case rel => exact ⟨n, by omega, by go_num, by rw [HR.out, HCL.out, HSE.out, HZ.out]; rfl⟩
            case measure => simp [intOf]
end Go.Proofs.Ytihmdfhgkfgmnaa
