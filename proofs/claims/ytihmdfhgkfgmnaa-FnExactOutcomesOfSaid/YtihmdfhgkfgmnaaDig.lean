/- Contracts: digits and texts of digits, in the program and in the reference. -/
import Derived.Test.YtihmdfhgkfgmnaaRows
import Derived.Test.YtihmdfhgkfgmnaaTab
import Derived.WalkSpells
import Derived.WalkLawsBesides
namespace Go.Proofs.Ytihmdfhgkfgmnaa
set_option linter.unusedVariables false
set_option linter.unusedSimpArgs false
open Go.RowKit Go.Shelf
set_option maxRecDepth 100000
set_option maxHeartbeats 1000000

theorem lib_stringslite_IndexByte (s : ByteArray) (c : Int) (w : World) :
    Calls Try.prog 140 #[.string s, .int .u8 c] w fun e w' => e = .returned (.int .i64 (firstIdx s c.toNat.toUInt8)) ∧ w = w' := by
  go_enter Try.func140, Try.ntmps140
  go_wp2
  rw [run_callFunc_indexByte Try.func150 (by kernel_rfl) (by kernel_rfl) (by kernel_rfl) (by kernel_rfl), run_indexByte_string]
  simp only [Result.andThen]
  rw [Oper.upon_value]
  go_wp2
  go_ret
  exact ⟨rfl, rfl⟩

theorem lib_IndexByte (s : ByteArray) (c : Int) (w : World) :
    Calls Try.prog 102 #[.string s, .int .u8 c] w fun e w' => e = .returned (.int .i64 (firstIdx s c.toNat.toUInt8)) ∧ w = w' := by
  go_enter Try.func102, Try.ntmps102
  go_wp2_with (go_at_call 140; refine (lib_stringslite_IndexByte _ _ _).mono ?_; rintro e w' ⟨rfl, rfl⟩)
  go_ret
  exact ⟨rfl, rfl⟩

theorem impl_digitOf (c : UInt8) (w : World) :
    Calls Try.prog 74 #[.int .u8 (c.toNat : Int)] w fun e w' => e = .returned (.int .i64 (hx c)) ∧ w = w' := by
  go_enter Try.func74, Try.ntmps74
  go_wp2_with fail
  refine (lib_IndexByte _ _ _).mono ?_
  rintro e w' ⟨rfl, rfl⟩
  go_wp2_with fail
  go_ret
  exact ⟨rfl, rfl⟩

theorem impl_digit (n : Int) (w : World) (h0 : 0 ≤ n) (h1 : n ≤ 15) :
    Calls Try.prog 40 #[.int .i64 n] w fun e w' => e = .returned (.string (dgs n)) ∧ w = w' := by
  go_enter Try.func40, Try.ntmps40
  go_wp2_with fail
  go_ret
  exact ⟨ret_str (extract_dgs n h0 h1), rfl⟩

theorem spec_l2Digit (n : Int) (w : World) (h0 : 0 ≤ n) (h1 : n ≤ 15) :
    Calls Try.prog 48 #[.int .i64 n] w fun e w' => e = .returned (.string (dgs n)) ∧ w = w' := by
  go_enter Try.func48, Try.ntmps48
  go_wp2_with fail
  go_ret
  exact ⟨ret_str (extract_dgs n h0 h1), rfl⟩

theorem firstIdx_at (s : ByteArray) (c : UInt8) (k : Nat) (hk : k < s.size) (he : bt s k = c) (hn : ∀ j, j < k → bt s j ≠ c) : firstIdx s c = k := by
  have hg : ∀ j, j < s.size → s[j]! = bt s j := fun j hj => by rw [getElem!_pos s j hj]; exact bt_get s j hj
  have : (List.range s.size).find? (fun i => s[i]! == c) = some k := by
    rw [List.find?_range_eq_some]
    refine ⟨by rw [hg k hk, he]; simp, by simpa using hk, fun j hj => ?_⟩
    rw [hg j (by omega)]; simpa using hn j hj
  unfold firstIdx; rw [this]
theorem firstIdx_none (s : ByteArray) (c : UInt8) (hn : ∀ j, j < s.size → bt s j ≠ c) : firstIdx s c = -1 := by
  have hg : ∀ j, j < s.size → s[j]! = bt s j := fun j hj => by rw [getElem!_pos s j hj]; exact bt_get s j hj
  have : (List.range s.size).find? (fun i => s[i]! == c) = none := by
    rw [List.find?_eq_none]
    intro j hj
    rw [hg j (by simpa using hj)]; simpa using hn j (by simpa using hj)
  unfold firstIdx; rw [this]

theorem spec_l14Find (s : ByteArray) (c : UInt8) (w : World) (hs : s.size ≤ 4294967296) :
    Calls Try.prog 118 #[.string s, .int .u8 (c.toNat : Int)] w fun e w' => e = .returned (.int .i64 (firstIdx s c)) ∧ w = w' := by
  go_enter Try.func118, Try.ntmps118
  go_wp2_with fail
  go_loop [5] (fun i => ∃ k : Nat, k ≤ s.size ∧ i = .int .i64 k ∧ Hid (∀ j, j < k → bt s j ≠ c)) (fun i => s.size - (intOf i).toNat)
  case atStart => exact ⟨0, by omega, rfl, fun j hj => by omega⟩
  case round =>
    obtain ⟨k, hk, rfl, H⟩ := hrel
    by_cases hlt : k < s.size
    · by_cases he : bt s k = c
      · have e1 : (((bt s k).toNat : Int) == (c.toNat : Int)) = true := by rw [he]; simp
        have H2 := Lib.hid he; clear he
        go_wp2_with fail
        go_ret
        exact ⟨ret_int (firstIdx_at s c k hlt H2.out H.out).symm, rfl⟩
      · have e1 : (((bt s k).toNat : Int) == (c.toNat : Int)) = false := by
          rw [beq_eq_false_iff_ne]; intro h; exact he (UInt8.toNat_inj.1 (by omega))
        have H2 := Lib.hid he; clear he
        go_wp2_with fail
        go_round
        case rel => exact ⟨k + 1, by omega, by go_num, fun j hj => by
          rcases Nat.lt_or_ge j k with h | h
          · exact H.out j h
          · obtain rfl : j = k := by omega
            exact H2.out⟩
        case measure => simp [intOf]; omega
    · have : k = s.size := by omega
      have H2 : Hid (∀ j, j < s.size → bt s j ≠ c) := by rw [← this]; exact H.out
      clear this
      go_wp2_with fail
      go_ret
      exact ⟨ret_int (firstIdx_none s c H2.out).symm, rfl⟩

theorem spec_l2Hex (c : UInt8) (w : World) :
    Calls Try.prog 70 #[.int .u8 (c.toNat : Int)] w fun e w' => e = .returned (.int .i64 (hx c)) ∧ w = w' := by
  go_enter Try.func70, Try.ntmps70
  go_wp2_with fail
  refine (spec_l14Find _ _ _ (by decide)).mono ?_
  rintro e w' ⟨rfl, rfl⟩
  go_wp2_with fail
  go_ret
  exact ⟨rfl, rfl⟩

/-- 'are the first k bytes of s digits?' -/
def digs (s : ByteArray) (k : Nat) : Bool := (List.range k).all fun j => decide (0 ≤ hx (bt s j))

theorem spec_l2Digits (s : ByteArray) (n : Int) (w : World) (hs : s.size ≤ 4611686018427387904) (hn : 0 ≤ n) :
    Calls Try.prog 137 #[.string s, .int .i64 n] w fun e w' => e = .returned (.bool (okTxt n.toNat s)) ∧ w = w' := by
  go_enter Try.func137, Try.ntmps137
  go_wp2_with fail
  go_loop [5] (fun i => ∃ k : Nat, k ≤ s.size ∧ i = .int .i64 k ∧ Hid (∀ j, j < k → 0 ≤ hx (bt s j))) (fun i => s.size - (intOf i).toNat)
  case atStart => exact ⟨0, by omega, rfl, fun j hj => by omega⟩
  case round =>
    obtain ⟨k, hk, rfl, H⟩ := hrel
    by_cases hlt : k < s.size
    · by_cases he : hx (bt s k) < 0
      · go_wp2_with fail
        refine (spec_l2Hex _ _).mono ?_
        rintro e w' ⟨rfl, rfl⟩
        go_wp2_with fail
        go_ret
        refine ⟨ret_bool (Eq.symm ?_), rfl⟩
        rw [Bool.eq_false_iff]
        intro h
        have h1 := okTxt_size h
        have := okTxt_hx h k (by omega)
        omega
      · have he' : 0 ≤ hx (bt s k) := by omega
        have H2 := Lib.hid he'
        clear he
        go_wp2_with fail
        refine (spec_l2Hex _ _).mono ?_
        rintro e w' ⟨rfl, rfl⟩
        go_wp2_with fail
        go_round
        case rel => exact ⟨k + 1, by omega, by go_num, fun j hj => by
          rcases Nat.lt_or_ge j k with h | h
          · exact H.out j h
          · obtain rfl : j = k := by omega
            exact H2.out⟩
        case measure => simp [intOf]; omega
    · have hkk : k = s.size := by omega
      have H2 : Hid (∀ j, j < s.size → 0 ≤ hx (bt s j)) := by rw [← hkk]; exact H.out
      clear hkk
      go_wp2_with fail
      go_ret
      refine ⟨ret_bool ?_, rfl⟩
      rw [Bool.eq_iff_iff]
      constructor
      · intro h
        have h' : s.size = n.toNat := by have : (s.size : Int) = n := by simpa using h
                                         omega
        simp only [okTxt, Bool.and_eq_true, decide_eq_true_eq, List.all_eq_true, List.mem_range]
        exact ⟨h', fun j hj => H2.out j (by omega)⟩
      · intro h; have := okTxt_size h; simp; omega
end Go.Proofs.Ytihmdfhgkfgmnaa
