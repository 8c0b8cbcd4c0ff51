/- Contracts: where the reference finds a contract's end. -/
import Derived.Test.YtihmdfhgkfgmnaaSp3
import Derived.Test.YtihmdfhgkfgmnaaCt2
namespace Go.Proofs.Ytihmdfhgkfgmnaa
set_option linter.unusedVariables false
set_option linter.unusedSimpArgs false
open Go.RowKit Go.Shelf
set_option maxRecDepth 100000
set_option maxHeartbeats 1000000

theorem bt_extract (c : ByteArray) (a b j : Nat) (h : j < b - a) : bt (c.extract a b) j = bt c (a + j) := by
  simp only [bt, ByteArray.data_extract, Array.toList_extract, List.extract_eq_take_drop, List.getD_eq_getElem?_getD]
  rw [List.getElem?_take_of_lt h, List.getElem?_drop]
/-- are there n digits from a place on? -/
def digOk (c : ByteArray) (a n : Nat) : Bool := decide (a + n ≤ c.size) && (List.range n).all fun j => decide (0 ≤ hx (bt c (a + j)))
theorem digOk_size {c : ByteArray} {a n : Nat} (h : digOk c a n = true) : a + n ≤ c.size := by
  simp only [digOk, Bool.and_eq_true, decide_eq_true_eq] at h; exact h.1
theorem digOk_hx {c : ByteArray} {a n : Nat} (h : digOk c a n = true) : ∀ j, j < n → 0 ≤ hx (bt c (a + j)) := by
  simp only [digOk, Bool.and_eq_true, List.all_eq_true, List.mem_range, decide_eq_true_eq] at h; exact h.2
theorem digOk_of {c : ByteArray} {a n : Nat} (h : a + n ≤ c.size) (k : ∀ j, j < n → 0 ≤ hx (bt c (a + j))) : digOk c a n = true := by
  simp only [digOk, Bool.and_eq_true, List.all_eq_true, List.mem_range, decide_eq_true_eq]; exact ⟨h, k⟩
theorem digOk_ext {c : ByteArray} {a n : Nat} (h : a + n ≤ c.size) : okTxt n (c.extract a (a + n)) = digOk c a n := by
  have hs : (c.extract a (a + n)).size = n := by simp; omega
  rw [Bool.eq_iff_iff]
  constructor
  · intro k
    refine digOk_of h fun j hj => ?_
    have := okTxt_hx k j hj
    rwa [bt_extract c a (a + n) j (by omega)] at this
  · intro k
    simp only [okTxt, hs, decide_true, Bool.true_and, List.all_eq_true, List.mem_range, decide_eq_true_eq]
    intro j hj
    rw [bt_extract c a (a + n) j (by omega)]
    exact digOk_hx k j hj
theorem LiesAt.digOk {c : ByteArray} {a : Nat} {t : Ct} (h : LiesAt c a t) (ht : t.WF) : digOk c (a + 1) t.ds.length = true := by
  refine digOk_of (by have := h.size; have := t.len_head; omega) fun j hj => ?_
  rw [h.hx ht j hj]
  exact (ht.dig _ (by rw [List.getD_eq_getElem?_getD, List.getElem?_eq_getElem hj]; exact List.getElem_mem _)).1
/-- .. the place behind them, -1 if there are none -/
def skipTo (c : ByteArray) (a n : Nat) : Int := if digOk c a n then ((a + n : Nat) : Int) else -1

theorem spec_l5Skip (c : ByteArray) (a n : Nat) (i : Int) (w : World) (hi : i = a) (hc : c.size ≤ 2147483648) (ha : a ≤ c.size) (hn : n ≤ 4) :
    Calls Try.prog 138 #[.string c, .int .i64 i, .int .i64 n] w fun e w' => e = .returned (.int .i64 (skipTo c a n)) ∧ w = w' := by
  subst hi
  by_cases h : a + n ≤ c.size
  · have hx := digOk_ext h
    have hs : (c.extract a (a + n)).size ≤ 4611686018427387904 := by simp; omega
    have h1 : (a : Int) + (n : Int) ≤ (c.size : Int) := by omega
    have h2 : ((a : Int) + (n : Int)).toNat = a + n := by omega
    have h3 : (a : Int) ≤ (a : Int) + (n : Int) := by omega
    cases hd : digOk c a n
    · rw [hd] at hx
      have HX := Lib.hid hx
      have HD := Lib.hid hd
      clear hx hd
      go_enter Try.func138, Try.ntmps138
      go_wp2_with fail
      refine (spec_l2Digits _ _ _ hs (by omega)).mono ?_
      rintro e w' ⟨rfl, rfl⟩
      rw [show ((n : Nat) : Int).toNat = n by omega, HX.out]
      go_wp2_with fail
      go_ret
      exact ⟨ret_int (by unfold skipTo; rw [HD.out]; rfl), rfl⟩
    · rw [hd] at hx
      have HX := Lib.hid hx
      have HD := Lib.hid hd
      clear hx hd
      go_enter Try.func138, Try.ntmps138
      go_wp2_with fail
      refine (spec_l2Digits _ _ _ hs (by omega)).mono ?_
      rintro e w' ⟨rfl, rfl⟩
      rw [show ((n : Nat) : Int).toNat = n by omega, HX.out]
      go_wp2_with fail
      go_ret
      exact ⟨ret_int (by unfold skipTo; rw [HD.out]; simp), rfl⟩
  · have hd : skipTo c a n = -1 := by
      unfold skipTo
      have : digOk c a n = false := by rw [Bool.eq_false_iff]; intro k; exact h (digOk_size k)
      rw [this]; rfl
    have HD := Lib.hid hd
    clear hd
    go_enter Try.func138, Try.ntmps138
    go_wp2_with fail
    go_ret
    exact ⟨ret_int HD.out.symm, rfl⟩
end Go.Proofs.Ytihmdfhgkfgmnaa
