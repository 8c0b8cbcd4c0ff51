/- The statement on assignments: its walk. -/
import Derived.Test.YtaeibhpkcikaaaaImV
import Derived.Test.YtaeibhpkcikaaaaDraw8
namespace Go.Proofs.Ytaeibhpkcikaaaa
set_option linter.unusedVariables false
set_option linter.unusedSimpArgs false
open Go.RowKit Go.Shelf
set_option maxRecDepth 100000
set_option maxHeartbeats 20000000

theorem hexD {k : Nat} (hk : k < 4) : (⟨#[48, 49, 50, 51, 52, 53, 54, 55, 56, 57, 97, 98, 99, 100, 101, 102]⟩ : ByteArray).extract k (k + 1) = ⟨#[decB k]⟩ := by
  obtain rfl | rfl | rfl | rfl : k = 0 ∨ k = 1 ∨ k = 2 ∨ k = 3 := by omega
  all_goals rfl
theorem laws_dcTrans (t : Ct) (ht : t.WF) (hlen : t.len ≤ 200) (w : World) : Calls Try.prog 21 #[.string t.text] w fun e w' => e = .returned (.string (txt 16 t.sem)) ∧ Below w.heap.size w w' := by
  have HT := Lib.hid (impl_TransOfContract t ht hlen)
  go_enter Try.func21, Try.ntmps21
  go_wp2_with fail
  refine (HT.out _).mono ?_
  rintro e w1 ⟨rfl, hb1⟩
  go_wp2_with fail
  go_ret
  exact ⟨rfl, hb1⟩
theorem in_AssignCode (a : Option Addr) (la ca : Nat) (za : List Int) (w : World) (h0 : IsRow .u8 w a la ca za) (hs : la ≤ 1048576) :
    Calls Try.prog 5 #[.slice a la ca] w fun e w' => e = .returned (.bool true) ∧ Below w.heap.size w w' := by
  go_enter Try.func5, Try.ntmps5
  go_wp2_with fail
  refine (DrawAssignCode_at a la ca za w h0).mono ?_
  rintro e w1 ⟨⟨s, t, rfl⟩, hb⟩
  cases hk : stOk s && stOk t
  · have HI := Lib.hid (fun w => impl_AssignCode_no hk w)
    have HJ := Lib.hid (fun w => spec_AssignCode_no hk w)
    clear hk
    go_wp2_with fail
    refine (HI.out _).mono ?_
    rintro e w2 ⟨rfl, hb2⟩
    go_wp2_with fail
    refine (HJ.out _).mono ?_
    rintro e w' ⟨rfl, rfl⟩
    go_wp2_with fail
    go_ret
    exact ⟨rfl, below_step hb hb2⟩
  · have hh : stOk s = true ∧ stOk t = true := by simpa using hk
    obtain ⟨s, hs, rfl⟩ := stOk_nat hh.1
    obtain ⟨t, ht, rfl⟩ := stOk_nat hh.2
    clear hk hh
    have HI := Lib.hid (fun w => impl_AssignCode_yes hs ht w)
    have HJ := Lib.hid (fun w => spec_AssignCode_yes hs ht w)
    have hl : (asgC s t).len ≤ 200 := by rw [asgC_len]; omega
    have HD := Lib.hid (fun w => laws_dcTrans (asgC s t) (asgC_wf ht) hl w)
    have HF := Lib.hid (fun w => impl_IsFunctional (s := s) ht w)
    have HP : Hid (∀ i : Nat, i < 4 → ∀ w, Calls Try.prog 10 #[.string (asgC s t).text, .int .i64 i, .string ⟨#[decB (asgTo s t i)]⟩] w fun e w' => e = .returned (.tuple #[.int .i64 (asgTo s t i : Nat), .int .i64 (1 : Nat), .string ⟨#[100, 111, 110, 101]⟩]) ∧ Below w.heap.size w w') := fun i hi w => by
      have h := impl_PlayContract_yes (asgC s t) (asgC_wf ht) hl i hi ⟨#[decB (asgTo s t i)]⟩ (by show (1 : Nat) ≤ _; omega) w
      have e : (⟨#[decB (asgTo s t i)]⟩ : ByteArray).data.toList = [decB (asgTo s t i)] := rfl
      rw [e, asg_play ht hi] at h
      exact h
    have HC : Hid (∀ i : Nat, i < 4 → ∀ w, Calls Try.prog 19 #[.int .i64 (wrap64 (2 ^ i)), .string (asgC s t).text, .int .i64 (wrap64 (2 ^ (asgTo s t i)))] w fun e w' => e = .returned (.bool true) ∧ Below w.heap.size w w') := fun i hi w => by
      have h := impl_IsCorrect (asgC s t) (asgC_wf ht) hl (shC4 hi) (shC4 (asgTo_lt (s := s) ht hi)) w
      rw [asg_correct ht hi] at h
      exact h
    generalize (asgC s t).text = T at *
    go_wp2_with fail
    refine (HI.out _).mono ?_
    rintro e w2 ⟨rfl, hb2⟩
    go_wp2_with fail
    refine (HJ.out _).mono ?_
    rintro e w' ⟨rfl, rfl⟩
    replace hb2 := below_step hb hb2
    clear hb HI HJ
    go_wp2_with fail
    go_loopw [9] (fun i wr => ∃ k : Nat, k ≤ 4 ∧ i = .int .i64 k ∧ Below w.heap.size w wr) (fun i _ => 4 - (intOf i).toNat)
    case atStart => exact ⟨0, by omega, rfl, hb2⟩
    case round =>
      obtain ⟨k, hk, rfl, hb3⟩ := hrel
      clear hb2
      by_cases hlt : k < 4
      · have HPk := Lib.hid (HP.out k hlt)
        have HCk := Lib.hid (HC.out k hlt)
        have hto := asgTo_lt (s := s) ht hlt
        have HX := Lib.hid (hexD hto)
        by_cases hks : k = s
        · have e0 : ((k : Int) == (s : Int)) = true := by rw [beq_iff_eq, hks]
          have HA : asgTo s t k = t := by unfold asgTo; rw [if_pos hks]
          rw [HA] at HPk HCk HX hto
          clear HA hks
          go_wp2_with fail
          rw [HX.out]
          refine (HPk.out _).mono ?_
          rintro e w3 ⟨rfl, hb4⟩
          go_wp2_with fail
          refine (HCk.out _).mono ?_
          rintro e w5 ⟨rfl, hb5⟩
          go_wp2_with fail
          go_roundw
          case rel => exact ⟨k + 1, by omega, by go_num, below_step (below_step hb3 hb4) hb5⟩
          case measure => simp [intOf]; omega
        · have e0 : ((k : Int) == (s : Int)) = false := by rw [beq_eq_false_iff_ne]; omega
          have HA : asgTo s t k = k := by unfold asgTo; rw [if_neg hks]
          rw [HA] at HPk HCk HX hto
          clear HA hks
          go_wp2_with fail
          rw [HX.out]
          refine (HPk.out _).mono ?_
          rintro e w3 ⟨rfl, hb4⟩
          go_wp2_with fail
          refine (HCk.out _).mono ?_
          rintro e w5 ⟨rfl, hb5⟩
          go_wp2_with fail
          go_roundw
          case rel => exact ⟨k + 1, by omega, by go_num, below_step (below_step hb3 hb4) hb5⟩
          case measure => simp [intOf]; omega
      · obtain rfl : k = 4 := by omega
        go_wp2_with fail
        refine (HD.out _).mono ?_
        rintro e w3 ⟨rfl, hb4⟩
        go_wp2_with fail
        refine (HF.out _).mono ?_
        rintro e w4 ⟨rfl, hb5⟩
        go_wp2_with fail
        go_ret
        exact ⟨rfl, below_step (below_step hb3 hb4) hb5⟩
theorem walk_AssignCode (a : Option Addr) (la ca : Nat) (za : List Int) (w : World) (h0 : IsRow .u8 w a la ca za) :
    Calls Try.prog 5 #[.slice a la ca] w fun e w' => e = .returned (.bool true) ∧ Below w.heap.size w w' := by
  by_cases hs : la ≤ 1048576
  · exact in_AssignCode a la ca za w h0 hs
  · go_enter Try.func5, Try.ntmps5
    go_wp2_with fail
    go_ret
    exact ⟨rfl, Below.refl _ _⟩
end Go.Proofs.Ytaeibhpkcikaaaa
