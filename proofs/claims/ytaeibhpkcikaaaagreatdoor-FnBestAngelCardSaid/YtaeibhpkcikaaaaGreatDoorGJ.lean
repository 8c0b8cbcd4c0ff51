/- Contracts: where the reference finds a contract's end. -/
import Derived.Test.YtaeibhpkcikaaaaGreatDoorGB
import Derived.Test.YtaeibhpkcikaaaaGreatDoorGF
/- Sp5 -/
namespace Go.Proofs.YtaeibhpkcikaaaaGreatDoor
set_option linter.unusedVariables false
set_option linter.unusedSimpArgs false
open Go.RowKit Go.Shelf
set_option maxRecDepth 100000
set_option maxHeartbeats 1000000

theorem bt_extract (c : ByteArray) (a b j : Nat) (h : j < b - a) : bt (c.extract a b) j = bt c (a + j) := by
  simp only [bt, ByteArray.data_extract, Array.toList_extract, List.extract_eq_take_drop, List.getD_eq_getElem?_getD]
  rw [List.getElem?_take_of_lt h, List.getElem?_drop]
/-- are there n digits from a place on? -/
def digOk (c : ByteArray) (a n : Nat) : Bool := decide (a + n ≤ c.size) && (List.range n).all fun j => decide (0 ≤ hx (bt c (a + j)))
theorem digOk_size {c : ByteArray} {a n : Nat} (h : digOk c a n = true) : a + n ≤ c.size := by
  simp only [digOk, Bool.and_eq_true, decide_eq_true_eq] at h; exact h.1
theorem digOk_hx {c : ByteArray} {a n : Nat} (h : digOk c a n = true) : ∀ j, j < n → 0 ≤ hx (bt c (a + j)) := by
  simp only [digOk, Bool.and_eq_true, List.all_eq_true, List.mem_range, decide_eq_true_eq] at h; exact h.2
theorem digOk_of {c : ByteArray} {a n : Nat} (h : a + n ≤ c.size) (k : ∀ j, j < n → 0 ≤ hx (bt c (a + j))) : digOk c a n = true := by
  simp only [digOk, Bool.and_eq_true, List.all_eq_true, List.mem_range, decide_eq_true_eq]; exact ⟨h, k⟩
theorem digOk_ext {c : ByteArray} {a n : Nat} (h : a + n ≤ c.size) : okTxt n (c.extract a (a + n)) = digOk c a n := by
  have hs : (c.extract a (a + n)).size = n := by simp; omega
  rw [Bool.eq_iff_iff]
  constructor
  · intro k
    refine digOk_of h fun j hj => ?_
    have := okTxt_hx k j hj
    rwa [bt_extract c a (a + n) j (by omega)] at this
  · intro k
    simp only [okTxt, hs, decide_true, Bool.true_and, List.all_eq_true, List.mem_range, decide_eq_true_eq]
    intro j hj
    rw [bt_extract c a (a + n) j (by omega)]
    exact digOk_hx k j hj
theorem LiesAt.digOk {c : ByteArray} {a : Nat} {t : Ct} (h : LiesAt c a t) (ht : t.WF) : digOk c (a + 1) t.ds.length = true := by
  refine digOk_of (by have := h.size; have := t.len_head; omega) fun j hj => ?_
  rw [h.hx ht j hj]
  exact (ht.dig _ (by rw [List.getD_eq_getElem?_getD, List.getElem?_eq_getElem hj]; exact List.getElem_mem _)).1
/-- .. the place behind them, -1 if there are none -/
def skipTo (c : ByteArray) (a n : Nat) : Int := if digOk c a n then ((a + n : Nat) : Int) else -1

theorem spec_l5Skip (c : ByteArray) (a n : Nat) (i : Int) (w : World) (hi : i = a) (hc : c.size ≤ 2147483648) (ha : a ≤ c.size) (hn : n ≤ 4) :
    Calls Tryz.prog 99 #[.string c, .int .i64 i, .int .i64 n] w fun e w' => e = .returned (.int .i64 (skipTo c a n)) ∧ w = w' := by
  subst hi
  by_cases h : a + n ≤ c.size
  · have hx := digOk_ext h
    have hs : (c.extract a (a + n)).size ≤ 4611686018427387904 := by simp; omega
    have h1 : (a : Int) + (n : Int) ≤ (c.size : Int) := by omega
    have h2 : ((a : Int) + (n : Int)).toNat = a + n := by omega
    have h3 : (a : Int) ≤ (a : Int) + (n : Int) := by omega
    cases hd : digOk c a n
    · rw [hd] at hx
      have HX := Lib.hid hx
      have HD := Lib.hid hd
      clear hx hd
      go_enter Tryz.func99, Tryz.ntmps99
      go_wp2_with fail
      refine (spec_l2Digits _ _ _ hs (by omega)).mono ?_
      rintro e w' ⟨rfl, rfl⟩
      rw [show ((n : Nat) : Int).toNat = n by omega, HX.out]
      go_wp2_with fail
      go_ret
      exact ⟨ret_int (by unfold skipTo; rw [HD.out]; rfl), rfl⟩
    · rw [hd] at hx
      have HX := Lib.hid hx
      have HD := Lib.hid hd
      clear hx hd
      go_enter Tryz.func99, Tryz.ntmps99
      go_wp2_with fail
      refine (spec_l2Digits _ _ _ hs (by omega)).mono ?_
      rintro e w' ⟨rfl, rfl⟩
      rw [show ((n : Nat) : Int).toNat = n by omega, HX.out]
      go_wp2_with fail
      go_ret
      exact ⟨ret_int (by unfold skipTo; rw [HD.out]; simp), rfl⟩
  · have hd : skipTo c a n = -1 := by
      unfold skipTo
      have : digOk c a n = false := by rw [Bool.eq_false_iff]; intro k; exact h (digOk_size k)
      rw [this]; rfl
    have HD := Lib.hid hd
    clear hd
    go_enter Tryz.func99, Tryz.ntmps99
    go_wp2_with fail
    go_ret
    exact ⟨ret_int HD.out.symm, rfl⟩
end Go.Proofs.YtaeibhpkcikaaaaGreatDoor

/- Sp5b -/
namespace Go.Proofs.YtaeibhpkcikaaaaGreatDoor
set_option linter.unusedVariables false
set_option linter.unusedSimpArgs false
open Go.RowKit Go.Shelf
set_option maxRecDepth 100000
set_option maxHeartbeats 1000000

theorem spec_l5End_neg (c : ByteArray) (w : World) : Calls Tryz.prog 71 #[.string c, .int .i64 (-1)] w fun e w' => e = .returned (.int .i64 (-1)) ∧ w = w' := by
  go_enter Tryz.func71, Tryz.ntmps71
  go_wp2_with fail
  go_ret
  exact ⟨rfl, rfl⟩
theorem spec_l5End_past (c : ByteArray) (a : Nat) (i : Int) (w : World) (hi : i = a) (h : c.size ≤ a) : Calls Tryz.prog 71 #[.string c, .int .i64 i] w fun e w' => e = .returned (.int .i64 (-1)) ∧ w = w' := by
  subst hi
  go_enter Tryz.func71, Tryz.ntmps71
  go_wp2_with fail
  go_ret
  exact ⟨rfl, rfl⟩
theorem skipTo_yes {c : ByteArray} {a n : Nat} (h : digOk c a n = true) : skipTo c a n = ((a + n : Nat) : Int) := by unfold skipTo; rw [h]; rfl
theorem skipTo_no {c : ByteArray} {a n : Nat} (h : digOk c a n = false) : skipTo c a n = -1 := by unfold skipTo; rw [h]; rfl
/-- the contract of the end where a contract lies -/
def EndYes (c : ByteArray) (t : Ct) : Prop := ∀ (a : Nat) (i : Int) (w : World), i = a → LiesAt c a t → Calls Tryz.prog 71 #[.string c, .int .i64 i] w fun e w' => e = .returned (.int .i64 ((a + t.len : Nat) : Int)) ∧ w = w'
/-- .. and where none lies -/
def EndNo (c : ByteArray) (a : Nat) : Prop := ∀ (i : Int) (w : World), i = a → Calls Tryz.prog 71 #[.string c, .int .i64 i] w fun e w' => e = .returned (.int .i64 (-1)) ∧ w = w'

theorem spec_l5End_y115 (c : ByteArray) (hc : c.size ≤ 2147483648) (d : List Int) (ht : (Ct.n0 115 d).WF) (hn : d.length = 0) : EndYes c (.n0 115 d) := by
  intro a i w hi hl
  subst hi
  have hop : bt c a = 115 := hl.op
  have hsz := hl.size
  have hlen : (Ct.n0 115 d).len = 1 := by rw [Ct.len0, hn]
  have hdg : digOk c (a + 1) 0 = true := by have := hl.digOk ht; rwa [show (Ct.n0 115 d).ds.length = 0 from hn] at this
  have ha : a < c.size := by omega
  have ha1 : a + 1 ≤ c.size := by omega
  have hb : ((bt c a).toNat : Int) = 115 := by rw [hop]; rfl
  have HS := Lib.hid (skipTo_yes hdg)
  have HL := Lib.hid hlen
  clear hl hop hdg ht hlen hsz
  go_enter Tryz.func71, Tryz.ntmps71
  go_wp2_with fail
  go_ret
  exact ⟨ret_int (by rw [HL.out]; push_cast; omega), rfl⟩

theorem spec_l5End_y97 (c : ByteArray) (hc : c.size ≤ 2147483648) (d : List Int) (ht : (Ct.n0 97 d).WF) (hn : d.length = 0) : EndYes c (.n0 97 d) := by
  intro a i w hi hl
  subst hi
  have hop : bt c a = 97 := hl.op
  have hsz := hl.size
  have hlen : (Ct.n0 97 d).len = 1 := by rw [Ct.len0, hn]
  have hdg : digOk c (a + 1) 0 = true := by have := hl.digOk ht; rwa [show (Ct.n0 97 d).ds.length = 0 from hn] at this
  have ha : a < c.size := by omega
  have ha1 : a + 1 ≤ c.size := by omega
  have hb : ((bt c a).toNat : Int) = 97 := by rw [hop]; rfl
  have HS := Lib.hid (skipTo_yes hdg)
  have HL := Lib.hid hlen
  clear hl hop hdg ht hlen hsz
  go_enter Tryz.func71, Tryz.ntmps71
  go_wp2_with fail
  go_ret
  exact ⟨ret_int (by rw [HL.out]; push_cast; omega), rfl⟩

theorem spec_l5End_y109 (c : ByteArray) (hc : c.size ≤ 2147483648) (d : List Int) (ht : (Ct.n0 109 d).WF) (hn : d.length = 0) : EndYes c (.n0 109 d) := by
  intro a i w hi hl
  subst hi
  have hop : bt c a = 109 := hl.op
  have hsz := hl.size
  have hlen : (Ct.n0 109 d).len = 1 := by rw [Ct.len0, hn]
  have hdg : digOk c (a + 1) 0 = true := by have := hl.digOk ht; rwa [show (Ct.n0 109 d).ds.length = 0 from hn] at this
  have ha : a < c.size := by omega
  have ha1 : a + 1 ≤ c.size := by omega
  have hb : ((bt c a).toNat : Int) = 109 := by rw [hop]; rfl
  have HS := Lib.hid (skipTo_yes hdg)
  have HL := Lib.hid hlen
  clear hl hop hdg ht hlen hsz
  go_enter Tryz.func71, Tryz.ntmps71
  go_wp2_with fail
  go_ret
  exact ⟨ret_int (by rw [HL.out]; push_cast; omega), rfl⟩

theorem spec_l5End_y33 (c : ByteArray) (hc : c.size ≤ 2147483648) (d : List Int) (ht : (Ct.n0 33 d).WF) (hn : d.length = 1) : EndYes c (.n0 33 d) := by
  intro a i w hi hl
  subst hi
  have hop : bt c a = 33 := hl.op
  have hsz := hl.size
  have hlen : (Ct.n0 33 d).len = 2 := by rw [Ct.len0, hn]
  have hdg : digOk c (a + 1) 1 = true := by have := hl.digOk ht; rwa [show (Ct.n0 33 d).ds.length = 1 from hn] at this
  have ha : a < c.size := by omega
  have ha1 : a + 1 ≤ c.size := by omega
  have hb : ((bt c a).toNat : Int) = 33 := by rw [hop]; rfl
  have HS := Lib.hid (skipTo_yes hdg)
  have HL := Lib.hid hlen
  clear hl hop hdg ht hlen hsz
  go_enter Tryz.func71, Tryz.ntmps71
  go_wp2_with fail
  refine (spec_l5Skip c (a + 1) 1 _ _ (by push_cast; rfl) hc ha1 (by decide)).mono ?_
  rintro e w' ⟨rfl, rfl⟩
  rw [HS.out]
  go_wp2_with fail
  go_ret
  exact ⟨ret_int (by rw [HL.out]; push_cast; omega), rfl⟩

theorem spec_l5End_y63 (c : ByteArray) (hc : c.size ≤ 2147483648) (d : List Int) (ht : (Ct.n0 63 d).WF) (hn : d.length = 1) : EndYes c (.n0 63 d) := by
  intro a i w hi hl
  subst hi
  have hop : bt c a = 63 := hl.op
  have hsz := hl.size
  have hlen : (Ct.n0 63 d).len = 2 := by rw [Ct.len0, hn]
  have hdg : digOk c (a + 1) 1 = true := by have := hl.digOk ht; rwa [show (Ct.n0 63 d).ds.length = 1 from hn] at this
  have ha : a < c.size := by omega
  have ha1 : a + 1 ≤ c.size := by omega
  have hb : ((bt c a).toNat : Int) = 63 := by rw [hop]; rfl
  have HS := Lib.hid (skipTo_yes hdg)
  have HL := Lib.hid hlen
  clear hl hop hdg ht hlen hsz
  go_enter Tryz.func71, Tryz.ntmps71
  go_wp2_with fail
  refine (spec_l5Skip c (a + 1) 1 _ _ (by push_cast; rfl) hc ha1 (by decide)).mono ?_
  rintro e w' ⟨rfl, rfl⟩
  rw [HS.out]
  go_wp2_with fail
  go_ret
  exact ⟨ret_int (by rw [HL.out]; push_cast; omega), rfl⟩

theorem spec_l5End_y65 (c : ByteArray) (hc : c.size ≤ 2147483648) (d : List Int) (ht : (Ct.n0 65 d).WF) (hn : d.length = 4) : EndYes c (.n0 65 d) := by
  intro a i w hi hl
  subst hi
  have hop : bt c a = 65 := hl.op
  have hsz := hl.size
  have hlen : (Ct.n0 65 d).len = 5 := by rw [Ct.len0, hn]
  have hdg : digOk c (a + 1) 4 = true := by have := hl.digOk ht; rwa [show (Ct.n0 65 d).ds.length = 4 from hn] at this
  have ha : a < c.size := by omega
  have ha1 : a + 1 ≤ c.size := by omega
  have hb : ((bt c a).toNat : Int) = 65 := by rw [hop]; rfl
  have HS := Lib.hid (skipTo_yes hdg)
  have HL := Lib.hid hlen
  clear hl hop hdg ht hlen hsz
  go_enter Tryz.func71, Tryz.ntmps71
  go_wp2_with fail
  refine (spec_l5Skip c (a + 1) 4 _ _ (by push_cast; rfl) hc ha1 (by decide)).mono ?_
  rintro e w' ⟨rfl, rfl⟩
  rw [HS.out]
  go_wp2_with fail
  go_ret
  exact ⟨ret_int (by rw [HL.out]; push_cast; omega), rfl⟩

theorem spec_l5End_y68 (c : ByteArray) (hc : c.size ≤ 2147483648) (d : List Int) (ht : (Ct.n0 68 d).WF) (hn : d.length = 4) : EndYes c (.n0 68 d) := by
  intro a i w hi hl
  subst hi
  have hop : bt c a = 68 := hl.op
  have hsz := hl.size
  have hlen : (Ct.n0 68 d).len = 5 := by rw [Ct.len0, hn]
  have hdg : digOk c (a + 1) 4 = true := by have := hl.digOk ht; rwa [show (Ct.n0 68 d).ds.length = 4 from hn] at this
  have ha : a < c.size := by omega
  have ha1 : a + 1 ≤ c.size := by omega
  have hb : ((bt c a).toNat : Int) = 68 := by rw [hop]; rfl
  have HS := Lib.hid (skipTo_yes hdg)
  have HL := Lib.hid hlen
  clear hl hop hdg ht hlen hsz
  go_enter Tryz.func71, Tryz.ntmps71
  go_wp2_with fail
  refine (spec_l5Skip c (a + 1) 4 _ _ (by push_cast; rfl) hc ha1 (by decide)).mono ?_
  rintro e w' ⟨rfl, rfl⟩
  rw [HS.out]
  go_wp2_with fail
  go_ret
  exact ⟨ret_int (by rw [HL.out]; push_cast; omega), rfl⟩

theorem spec_l5End_y119 (c : ByteArray) (hc : c.size ≤ 2147483648) (d : List Int) (x : Ct) (ht : (Ct.n1 119 d x).WF) (hn : d.length = 1) (ih : EndYes c x) : EndYes c (.n1 119 d x) := by
  intro a i w hi hl
  subst hi
  have hop : bt c a = 119 := hl.op
  have hsz := hl.size
  have hlen : (Ct.n1 119 d x).len = 2 + x.len := by rw [Ct.len1, hn]
  have hdg : digOk c (a + 1) 1 = true := by have := hl.digOk ht; rwa [show (Ct.n1 119 d x).ds.length = 1 from hn] at this
  have hpx : LiesAt c (a + 2) x := by have := hl.part; rwa [hn] at this
  have ha : a < c.size := by omega
  have ha1 : a + 1 ≤ c.size := by omega
  have hb : ((bt c a).toNat : Int) = 119 := by rw [hop]; rfl
  have HS := Lib.hid (skipTo_yes hdg)
  have HL := Lib.hid hlen
  clear hl hop hdg ht hlen hsz
  go_enter Tryz.func71, Tryz.ntmps71
  go_wp2_with fail
  refine (spec_l5Skip c (a + 1) 1 _ _ (by push_cast; rfl) hc ha1 (by decide)).mono ?_
  rintro e w' ⟨rfl, rfl⟩
  rw [HS.out]
  go_wp2_with fail
  refine (ih (a + 2) _ _ (by push_cast; omega) hpx).mono ?_
  rintro e w' ⟨rfl, rfl⟩
  go_wp2_with fail
  go_ret
  exact ⟨ret_int (by rw [HL.out]; push_cast; omega), rfl⟩

theorem spec_l5End_y42 (c : ByteArray) (hc : c.size ≤ 2147483648) (d : List Int) (x : Ct) (ht : (Ct.n1 42 d x).WF) (hn : d.length = 0) (ih : EndYes c x) : EndYes c (.n1 42 d x) := by
  intro a i w hi hl
  subst hi
  have hop : bt c a = 42 := hl.op
  have hsz := hl.size
  have hlen : (Ct.n1 42 d x).len = 1 + x.len := by rw [Ct.len1, hn]
  have hdg : digOk c (a + 1) 0 = true := by have := hl.digOk ht; rwa [show (Ct.n1 42 d x).ds.length = 0 from hn] at this
  have hpx : LiesAt c (a + 1) x := by have := hl.part; rwa [hn] at this
  have ha : a < c.size := by omega
  have ha1 : a + 1 ≤ c.size := by omega
  have hb : ((bt c a).toNat : Int) = 42 := by rw [hop]; rfl
  have HS := Lib.hid (skipTo_yes hdg)
  have HL := Lib.hid hlen
  clear hl hop hdg ht hlen hsz
  go_enter Tryz.func71, Tryz.ntmps71
  go_wp2_with fail
  refine (ih (a + 1) _ _ (by push_cast; omega) hpx).mono ?_
  rintro e w' ⟨rfl, rfl⟩
  go_wp2_with fail
  go_ret
  exact ⟨ret_int (by rw [HL.out]; push_cast; omega), rfl⟩

theorem spec_l5End_y43 (c : ByteArray) (hc : c.size ≤ 2147483648) (d : List Int) (x : Ct) (ht : (Ct.n1 43 d x).WF) (hn : d.length = 0) (ih : EndYes c x) : EndYes c (.n1 43 d x) := by
  intro a i w hi hl
  subst hi
  have hop : bt c a = 43 := hl.op
  have hsz := hl.size
  have hlen : (Ct.n1 43 d x).len = 1 + x.len := by rw [Ct.len1, hn]
  have hdg : digOk c (a + 1) 0 = true := by have := hl.digOk ht; rwa [show (Ct.n1 43 d x).ds.length = 0 from hn] at this
  have hpx : LiesAt c (a + 1) x := by have := hl.part; rwa [hn] at this
  have ha : a < c.size := by omega
  have ha1 : a + 1 ≤ c.size := by omega
  have hb : ((bt c a).toNat : Int) = 43 := by rw [hop]; rfl
  have HS := Lib.hid (skipTo_yes hdg)
  have HL := Lib.hid hlen
  clear hl hop hdg ht hlen hsz
  go_enter Tryz.func71, Tryz.ntmps71
  go_wp2_with fail
  refine (ih (a + 1) _ _ (by push_cast; omega) hpx).mono ?_
  rintro e w' ⟨rfl, rfl⟩
  go_wp2_with fail
  go_ret
  exact ⟨ret_int (by rw [HL.out]; push_cast; omega), rfl⟩

theorem spec_l5End_y59 (c : ByteArray) (hc : c.size ≤ 2147483648) (d : List Int) (x y : Ct) (ht : (Ct.n2 59 d x y).WF) (hn : d.length = 0) (ih : EndYes c x) (ihy : EndYes c y) : EndYes c (.n2 59 d x y) := by
  intro a i w hi hl
  subst hi
  have hop : bt c a = 59 := hl.op
  have hsz := hl.size
  have hlen : (Ct.n2 59 d x y).len = 1 + (x.len + y.len) := by rw [Ct.len2, hn]
  have hdg : digOk c (a + 1) 0 = true := by have := hl.digOk ht; rwa [show (Ct.n2 59 d x y).ds.length = 0 from hn] at this
  have hpx : LiesAt c (a + 1) x := by have := hl.part1; rwa [hn] at this
  have hpy : LiesAt c (a + 1 + x.len) y := by have := hl.part2; rwa [hn] at this
  have ha : a < c.size := by omega
  have ha1 : a + 1 ≤ c.size := by omega
  have hb : ((bt c a).toNat : Int) = 59 := by rw [hop]; rfl
  have HS := Lib.hid (skipTo_yes hdg)
  have HL := Lib.hid hlen
  clear hl hop hdg ht hlen hsz
  go_enter Tryz.func71, Tryz.ntmps71
  go_wp2_with fail
  refine (ih (a + 1) _ _ (by push_cast; omega) hpx).mono ?_
  rintro e w' ⟨rfl, rfl⟩
  go_wp2_with fail
  refine (ihy (a + 1 + x.len) _ _ (by push_cast; omega) hpy).mono ?_
  rintro e w' ⟨rfl, rfl⟩
  go_wp2_with fail
  go_ret
  exact ⟨ret_int (by rw [HL.out]; push_cast; omega), rfl⟩

theorem spec_l5End_y38 (c : ByteArray) (hc : c.size ≤ 2147483648) (d : List Int) (x y : Ct) (ht : (Ct.n2 38 d x y).WF) (hn : d.length = 0) (ih : EndYes c x) (ihy : EndYes c y) : EndYes c (.n2 38 d x y) := by
  intro a i w hi hl
  subst hi
  have hop : bt c a = 38 := hl.op
  have hsz := hl.size
  have hlen : (Ct.n2 38 d x y).len = 1 + (x.len + y.len) := by rw [Ct.len2, hn]
  have hdg : digOk c (a + 1) 0 = true := by have := hl.digOk ht; rwa [show (Ct.n2 38 d x y).ds.length = 0 from hn] at this
  have hpx : LiesAt c (a + 1) x := by have := hl.part1; rwa [hn] at this
  have hpy : LiesAt c (a + 1 + x.len) y := by have := hl.part2; rwa [hn] at this
  have ha : a < c.size := by omega
  have ha1 : a + 1 ≤ c.size := by omega
  have hb : ((bt c a).toNat : Int) = 38 := by rw [hop]; rfl
  have HS := Lib.hid (skipTo_yes hdg)
  have HL := Lib.hid hlen
  clear hl hop hdg ht hlen hsz
  go_enter Tryz.func71, Tryz.ntmps71
  go_wp2_with fail
  refine (ih (a + 1) _ _ (by push_cast; omega) hpx).mono ?_
  rintro e w' ⟨rfl, rfl⟩
  go_wp2_with fail
  refine (ihy (a + 1 + x.len) _ _ (by push_cast; omega) hpy).mono ?_
  rintro e w' ⟨rfl, rfl⟩
  go_wp2_with fail
  go_ret
  exact ⟨ret_int (by rw [HL.out]; push_cast; omega), rfl⟩

theorem spec_l5End_y124 (c : ByteArray) (hc : c.size ≤ 2147483648) (d : List Int) (x y : Ct) (ht : (Ct.n2 124 d x y).WF) (hn : d.length = 0) (ih : EndYes c x) (ihy : EndYes c y) : EndYes c (.n2 124 d x y) := by
  intro a i w hi hl
  subst hi
  have hop : bt c a = 124 := hl.op
  have hsz := hl.size
  have hlen : (Ct.n2 124 d x y).len = 1 + (x.len + y.len) := by rw [Ct.len2, hn]
  have hdg : digOk c (a + 1) 0 = true := by have := hl.digOk ht; rwa [show (Ct.n2 124 d x y).ds.length = 0 from hn] at this
  have hpx : LiesAt c (a + 1) x := by have := hl.part1; rwa [hn] at this
  have hpy : LiesAt c (a + 1 + x.len) y := by have := hl.part2; rwa [hn] at this
  have ha : a < c.size := by omega
  have ha1 : a + 1 ≤ c.size := by omega
  have hb : ((bt c a).toNat : Int) = 124 := by rw [hop]; rfl
  have HS := Lib.hid (skipTo_yes hdg)
  have HL := Lib.hid hlen
  clear hl hop hdg ht hlen hsz
  go_enter Tryz.func71, Tryz.ntmps71
  go_wp2_with fail
  refine (ih (a + 1) _ _ (by push_cast; omega) hpx).mono ?_
  rintro e w' ⟨rfl, rfl⟩
  go_wp2_with fail
  refine (ihy (a + 1 + x.len) _ _ (by push_cast; omega) hpy).mono ?_
  rintro e w' ⟨rfl, rfl⟩
  go_wp2_with fail
  go_ret
  exact ⟨ret_int (by rw [HL.out]; push_cast; omega), rfl⟩

theorem spec_l5End_y105 (c : ByteArray) (hc : c.size ≤ 2147483648) (d : List Int) (x y : Ct) (ht : (Ct.n2 105 d x y).WF) (hn : d.length = 1) (ih : EndYes c x) (ihy : EndYes c y) : EndYes c (.n2 105 d x y) := by
  intro a i w hi hl
  subst hi
  have hop : bt c a = 105 := hl.op
  have hsz := hl.size
  have hlen : (Ct.n2 105 d x y).len = 2 + (x.len + y.len) := by rw [Ct.len2, hn]
  have hdg : digOk c (a + 1) 1 = true := by have := hl.digOk ht; rwa [show (Ct.n2 105 d x y).ds.length = 1 from hn] at this
  have hpx : LiesAt c (a + 2) x := by have := hl.part1; rwa [hn] at this
  have hpy : LiesAt c (a + 2 + x.len) y := by have := hl.part2; rwa [hn] at this
  have ha : a < c.size := by omega
  have ha1 : a + 1 ≤ c.size := by omega
  have hb : ((bt c a).toNat : Int) = 105 := by rw [hop]; rfl
  have HS := Lib.hid (skipTo_yes hdg)
  have HL := Lib.hid hlen
  clear hl hop hdg ht hlen hsz
  go_enter Tryz.func71, Tryz.ntmps71
  go_wp2_with fail
  refine (spec_l5Skip c (a + 1) 1 _ _ (by push_cast; rfl) hc ha1 (by decide)).mono ?_
  rintro e w' ⟨rfl, rfl⟩
  rw [HS.out]
  go_wp2_with fail
  refine (ih (a + 2) _ _ (by push_cast; omega) hpx).mono ?_
  rintro e w' ⟨rfl, rfl⟩
  go_wp2_with fail
  refine (ihy (a + 2 + x.len) _ _ (by push_cast; omega) hpy).mono ?_
  rintro e w' ⟨rfl, rfl⟩
  go_wp2_with fail
  go_ret
  exact ⟨ret_int (by rw [HL.out]; push_cast; omega), rfl⟩

theorem spec_l5End_yes (c : ByteArray) (hc : c.size ≤ 2147483648) : ∀ t : Ct, t.WF → EndYes c t
  | .n0 o d, ht => by
    rcases shp0 ht.1 with ⟨rfl | rfl | rfl, hn⟩ | ⟨rfl | rfl, hn⟩ | ⟨rfl | rfl, hn⟩
    · exact spec_l5End_y115 c hc d ht hn
    · exact spec_l5End_y97 c hc d ht hn
    · exact spec_l5End_y109 c hc d ht hn
    · exact spec_l5End_y33 c hc d ht hn
    · exact spec_l5End_y63 c hc d ht hn
    · exact spec_l5End_y65 c hc d ht hn
    · exact spec_l5End_y68 c hc d ht hn
  | .n1 o d x, ht => by
    have ih := spec_l5End_yes c hc x ht.2
    rcases shp1 ht.1.1 with ⟨rfl, hn⟩ | ⟨rfl | rfl, hn⟩
    · exact spec_l5End_y119 c hc d x ht hn ih
    · exact spec_l5End_y42 c hc d x ht hn ih
    · exact spec_l5End_y43 c hc d x ht hn ih
  | .n2 o d x y, ht => by
    have ih := spec_l5End_yes c hc x ht.2.1
    have ihy := spec_l5End_yes c hc y ht.2.2
    rcases shp2 ht.1.1 with ⟨rfl | rfl | rfl, hn⟩ | ⟨rfl, hn⟩
    · exact spec_l5End_y59 c hc d x y ht hn ih ihy
    · exact spec_l5End_y38 c hc d x y ht hn ih ihy
    · exact spec_l5End_y124 c hc d x y ht hn ih ihy
    · exact spec_l5End_y105 c hc d x y ht hn ih ihy

/-- nothing lies there -/
def Nothing (c : ByteArray) (a : Nat) : Prop := ¬ ∃ t : Ct, t.WF ∧ LiesAt c a t
theorem shp_none {b : UInt8} (h : shp b = none) : b ≠ 115 ∧ b ≠ 97 ∧ b ≠ 109 ∧ b ≠ 33 ∧ b ≠ 63 ∧ b ≠ 65 ∧ b ≠ 68 ∧ b ≠ 59 ∧ b ≠ 38 ∧ b ≠ 124 ∧ b ≠ 105 ∧ b ≠ 119 ∧ b ≠ 42 ∧ b ≠ 43 := by
  unfold shp at h
  repeat' split at h
  all_goals first | (cases h; done) | skip
  simp_all
theorem u8_ne {b : UInt8} {k : UInt8} {n : Int} (h : b ≠ k) (hk : (k.toNat : Int) = n) : ((b.toNat : Int) == n) = false := by
  rw [beq_eq_false_iff_ne, ← hk]
  intro e
  exact h (UInt8.toNat_inj.1 (by omega))
theorem spec_l5End_none (c : ByteArray) (a : Nat) (ha : a < c.size) (h : shp (bt c a) = none) : EndNo c a := by
  intro i w hi
  subst hi
  obtain ⟨h1, h2, h3, h4, h5, h6, h7, h8, h9, h10, h11, h12, h13, h14⟩ := shp_none h
  have e1 := u8_ne (n := 115) h1 rfl
  have e2 := u8_ne (n := 97) h2 rfl
  have e3 := u8_ne (n := 109) h3 rfl
  have e4 := u8_ne (n := 33) h4 rfl
  have e5 := u8_ne (n := 63) h5 rfl
  have e6 := u8_ne (n := 65) h6 rfl
  have e7 := u8_ne (n := 68) h7 rfl
  have e8 := u8_ne (n := 59) h8 rfl
  have e9 := u8_ne (n := 38) h9 rfl
  have e10 := u8_ne (n := 124) h10 rfl
  have e11 := u8_ne (n := 105) h11 rfl
  have e12 := u8_ne (n := 119) h12 rfl
  have e13 := u8_ne (n := 42) h13 rfl
  have e14 := u8_ne (n := 43) h14 rfl
  clear h h1 h2 h3 h4 h5 h6 h7 h8 h9 h10 h11 h12 h13 h14
  go_enter Tryz.func71, Tryz.ntmps71
  go_wp2_with fail
  go_ret
  exact ⟨rfl, rfl⟩

theorem spec_l5End_d33 (c : ByteArray) (hc : c.size ≤ 2147483648) (a : Nat) (ha : a < c.size) (hop : bt c a = 33) (hd : digOk c (a + 1) 1 = false) : EndNo c a := by
  intro i w hi
  subst hi
  have ha1 : a + 1 ≤ c.size := by omega
  have hb : ((bt c a).toNat : Int) = 33 := by rw [hop]; rfl
  have HS := Lib.hid (skipTo_no hd)
  clear hop hd
  go_enter Tryz.func71, Tryz.ntmps71
  go_wp2_with fail
  refine (spec_l5Skip c (a + 1) 1 _ _ (by push_cast; rfl) hc ha1 (by decide)).mono ?_
  rintro e w' ⟨rfl, rfl⟩
  rw [HS.out]
  go_wp2_with fail
  go_ret
  exact ⟨rfl, rfl⟩

theorem spec_l5End_d63 (c : ByteArray) (hc : c.size ≤ 2147483648) (a : Nat) (ha : a < c.size) (hop : bt c a = 63) (hd : digOk c (a + 1) 1 = false) : EndNo c a := by
  intro i w hi
  subst hi
  have ha1 : a + 1 ≤ c.size := by omega
  have hb : ((bt c a).toNat : Int) = 63 := by rw [hop]; rfl
  have HS := Lib.hid (skipTo_no hd)
  clear hop hd
  go_enter Tryz.func71, Tryz.ntmps71
  go_wp2_with fail
  refine (spec_l5Skip c (a + 1) 1 _ _ (by push_cast; rfl) hc ha1 (by decide)).mono ?_
  rintro e w' ⟨rfl, rfl⟩
  rw [HS.out]
  go_wp2_with fail
  go_ret
  exact ⟨rfl, rfl⟩

theorem spec_l5End_d65 (c : ByteArray) (hc : c.size ≤ 2147483648) (a : Nat) (ha : a < c.size) (hop : bt c a = 65) (hd : digOk c (a + 1) 4 = false) : EndNo c a := by
  intro i w hi
  subst hi
  have ha1 : a + 1 ≤ c.size := by omega
  have hb : ((bt c a).toNat : Int) = 65 := by rw [hop]; rfl
  have HS := Lib.hid (skipTo_no hd)
  clear hop hd
  go_enter Tryz.func71, Tryz.ntmps71
  go_wp2_with fail
  refine (spec_l5Skip c (a + 1) 4 _ _ (by push_cast; rfl) hc ha1 (by decide)).mono ?_
  rintro e w' ⟨rfl, rfl⟩
  rw [HS.out]
  go_wp2_with fail
  go_ret
  exact ⟨rfl, rfl⟩

theorem spec_l5End_d68 (c : ByteArray) (hc : c.size ≤ 2147483648) (a : Nat) (ha : a < c.size) (hop : bt c a = 68) (hd : digOk c (a + 1) 4 = false) : EndNo c a := by
  intro i w hi
  subst hi
  have ha1 : a + 1 ≤ c.size := by omega
  have hb : ((bt c a).toNat : Int) = 68 := by rw [hop]; rfl
  have HS := Lib.hid (skipTo_no hd)
  clear hop hd
  go_enter Tryz.func71, Tryz.ntmps71
  go_wp2_with fail
  refine (spec_l5Skip c (a + 1) 4 _ _ (by push_cast; rfl) hc ha1 (by decide)).mono ?_
  rintro e w' ⟨rfl, rfl⟩
  rw [HS.out]
  go_wp2_with fail
  go_ret
  exact ⟨rfl, rfl⟩

theorem spec_l5End_d119 (c : ByteArray) (hc : c.size ≤ 2147483648) (a : Nat) (ha : a < c.size) (hop : bt c a = 119) (hd : digOk c (a + 1) 1 = false) : EndNo c a := by
  intro i w hi
  subst hi
  have ha1 : a + 1 ≤ c.size := by omega
  have hb : ((bt c a).toNat : Int) = 119 := by rw [hop]; rfl
  have HS := Lib.hid (skipTo_no hd)
  clear hop hd
  go_enter Tryz.func71, Tryz.ntmps71
  go_wp2_with fail
  refine (spec_l5Skip c (a + 1) 1 _ _ (by push_cast; rfl) hc ha1 (by decide)).mono ?_
  rintro e w' ⟨rfl, rfl⟩
  rw [HS.out]
  go_wp2_with fail
  refine (spec_l5End_neg _ _).mono ?_
  rintro e w' ⟨rfl, rfl⟩
  go_wp2_with fail
  go_ret
  exact ⟨rfl, rfl⟩

theorem spec_l5End_p119 (c : ByteArray) (hc : c.size ≤ 2147483648) (a : Nat) (ha : a < c.size) (hop : bt c a = 119) (hd : digOk c (a + 1) 1 = true) (hp : EndNo c (a + 2)) : EndNo c a := by
  intro i w hi
  subst hi
  have ha1 : a + 1 ≤ c.size := by omega
  have hb : ((bt c a).toNat : Int) = 119 := by rw [hop]; rfl
  have HS := Lib.hid (skipTo_yes hd)
  clear hop hd
  go_enter Tryz.func71, Tryz.ntmps71
  go_wp2_with fail
  refine (spec_l5Skip c (a + 1) 1 _ _ (by push_cast; rfl) hc ha1 (by decide)).mono ?_
  rintro e w' ⟨rfl, rfl⟩
  rw [HS.out]
  go_wp2_with fail
  refine (hp _ _ (by push_cast; omega)).mono ?_
  rintro e w' ⟨rfl, rfl⟩
  go_wp2_with fail
  go_ret
  exact ⟨rfl, rfl⟩

theorem spec_l5End_p42 (c : ByteArray) (hc : c.size ≤ 2147483648) (a : Nat) (ha : a < c.size) (hop : bt c a = 42) (hd : digOk c (a + 1) 0 = true) (hp : EndNo c (a + 1)) : EndNo c a := by
  intro i w hi
  subst hi
  have ha1 : a + 1 ≤ c.size := by omega
  have hb : ((bt c a).toNat : Int) = 42 := by rw [hop]; rfl
  have HS := Lib.hid (skipTo_yes hd)
  clear hop hd
  go_enter Tryz.func71, Tryz.ntmps71
  go_wp2_with fail
  refine (hp _ _ (by push_cast; omega)).mono ?_
  rintro e w' ⟨rfl, rfl⟩
  go_wp2_with fail
  go_ret
  exact ⟨rfl, rfl⟩

theorem spec_l5End_p43 (c : ByteArray) (hc : c.size ≤ 2147483648) (a : Nat) (ha : a < c.size) (hop : bt c a = 43) (hd : digOk c (a + 1) 0 = true) (hp : EndNo c (a + 1)) : EndNo c a := by
  intro i w hi
  subst hi
  have ha1 : a + 1 ≤ c.size := by omega
  have hb : ((bt c a).toNat : Int) = 43 := by rw [hop]; rfl
  have HS := Lib.hid (skipTo_yes hd)
  clear hop hd
  go_enter Tryz.func71, Tryz.ntmps71
  go_wp2_with fail
  refine (hp _ _ (by push_cast; omega)).mono ?_
  rintro e w' ⟨rfl, rfl⟩
  go_wp2_with fail
  go_ret
  exact ⟨rfl, rfl⟩

theorem spec_l5End_p59 (c : ByteArray) (hc : c.size ≤ 2147483648) (a : Nat) (ha : a < c.size) (hop : bt c a = 59) (hd : digOk c (a + 1) 0 = true) (hp : EndNo c (a + 1)) : EndNo c a := by
  intro i w hi
  subst hi
  have ha1 : a + 1 ≤ c.size := by omega
  have hb : ((bt c a).toNat : Int) = 59 := by rw [hop]; rfl
  have HS := Lib.hid (skipTo_yes hd)
  clear hop hd
  go_enter Tryz.func71, Tryz.ntmps71
  go_wp2_with fail
  refine (hp _ _ (by push_cast; omega)).mono ?_
  rintro e w' ⟨rfl, rfl⟩
  go_wp2_with fail
  refine (spec_l5End_neg _ _).mono ?_
  rintro e w' ⟨rfl, rfl⟩
  go_wp2_with fail
  go_ret
  exact ⟨rfl, rfl⟩

theorem spec_l5End_q59 (c : ByteArray) (hc : c.size ≤ 2147483648) (a : Nat) (ha : a < c.size) (hop : bt c a = 59) (hd : digOk c (a + 1) 0 = true) (x : Ct) (hx : EndYes c x) (hl : LiesAt c (a + 1) x) (hp : EndNo c (a + 1 + x.len)) : EndNo c a := by
  intro i w hi
  subst hi
  have ha1 : a + 1 ≤ c.size := by omega
  have hb : ((bt c a).toNat : Int) = 59 := by rw [hop]; rfl
  have HS := Lib.hid (skipTo_yes hd)
  clear hop hd
  go_enter Tryz.func71, Tryz.ntmps71
  go_wp2_with fail
  refine (hx (a + 1) _ _ (by push_cast; omega) hl).mono ?_
  rintro e w' ⟨rfl, rfl⟩
  go_wp2_with fail
  refine (hp _ _ (by push_cast; omega)).mono ?_
  rintro e w' ⟨rfl, rfl⟩
  go_wp2_with fail
  go_ret
  exact ⟨rfl, rfl⟩

theorem spec_l5End_p38 (c : ByteArray) (hc : c.size ≤ 2147483648) (a : Nat) (ha : a < c.size) (hop : bt c a = 38) (hd : digOk c (a + 1) 0 = true) (hp : EndNo c (a + 1)) : EndNo c a := by
  intro i w hi
  subst hi
  have ha1 : a + 1 ≤ c.size := by omega
  have hb : ((bt c a).toNat : Int) = 38 := by rw [hop]; rfl
  have HS := Lib.hid (skipTo_yes hd)
  clear hop hd
  go_enter Tryz.func71, Tryz.ntmps71
  go_wp2_with fail
  refine (hp _ _ (by push_cast; omega)).mono ?_
  rintro e w' ⟨rfl, rfl⟩
  go_wp2_with fail
  refine (spec_l5End_neg _ _).mono ?_
  rintro e w' ⟨rfl, rfl⟩
  go_wp2_with fail
  go_ret
  exact ⟨rfl, rfl⟩

theorem spec_l5End_q38 (c : ByteArray) (hc : c.size ≤ 2147483648) (a : Nat) (ha : a < c.size) (hop : bt c a = 38) (hd : digOk c (a + 1) 0 = true) (x : Ct) (hx : EndYes c x) (hl : LiesAt c (a + 1) x) (hp : EndNo c (a + 1 + x.len)) : EndNo c a := by
  intro i w hi
  subst hi
  have ha1 : a + 1 ≤ c.size := by omega
  have hb : ((bt c a).toNat : Int) = 38 := by rw [hop]; rfl
  have HS := Lib.hid (skipTo_yes hd)
  clear hop hd
  go_enter Tryz.func71, Tryz.ntmps71
  go_wp2_with fail
  refine (hx (a + 1) _ _ (by push_cast; omega) hl).mono ?_
  rintro e w' ⟨rfl, rfl⟩
  go_wp2_with fail
  refine (hp _ _ (by push_cast; omega)).mono ?_
  rintro e w' ⟨rfl, rfl⟩
  go_wp2_with fail
  go_ret
  exact ⟨rfl, rfl⟩

theorem spec_l5End_p124 (c : ByteArray) (hc : c.size ≤ 2147483648) (a : Nat) (ha : a < c.size) (hop : bt c a = 124) (hd : digOk c (a + 1) 0 = true) (hp : EndNo c (a + 1)) : EndNo c a := by
  intro i w hi
  subst hi
  have ha1 : a + 1 ≤ c.size := by omega
  have hb : ((bt c a).toNat : Int) = 124 := by rw [hop]; rfl
  have HS := Lib.hid (skipTo_yes hd)
  clear hop hd
  go_enter Tryz.func71, Tryz.ntmps71
  go_wp2_with fail
  refine (hp _ _ (by push_cast; omega)).mono ?_
  rintro e w' ⟨rfl, rfl⟩
  go_wp2_with fail
  refine (spec_l5End_neg _ _).mono ?_
  rintro e w' ⟨rfl, rfl⟩
  go_wp2_with fail
  go_ret
  exact ⟨rfl, rfl⟩

theorem spec_l5End_q124 (c : ByteArray) (hc : c.size ≤ 2147483648) (a : Nat) (ha : a < c.size) (hop : bt c a = 124) (hd : digOk c (a + 1) 0 = true) (x : Ct) (hx : EndYes c x) (hl : LiesAt c (a + 1) x) (hp : EndNo c (a + 1 + x.len)) : EndNo c a := by
  intro i w hi
  subst hi
  have ha1 : a + 1 ≤ c.size := by omega
  have hb : ((bt c a).toNat : Int) = 124 := by rw [hop]; rfl
  have HS := Lib.hid (skipTo_yes hd)
  clear hop hd
  go_enter Tryz.func71, Tryz.ntmps71
  go_wp2_with fail
  refine (hx (a + 1) _ _ (by push_cast; omega) hl).mono ?_
  rintro e w' ⟨rfl, rfl⟩
  go_wp2_with fail
  refine (hp _ _ (by push_cast; omega)).mono ?_
  rintro e w' ⟨rfl, rfl⟩
  go_wp2_with fail
  go_ret
  exact ⟨rfl, rfl⟩

theorem spec_l5End_d105 (c : ByteArray) (hc : c.size ≤ 2147483648) (a : Nat) (ha : a < c.size) (hop : bt c a = 105) (hd : digOk c (a + 1) 1 = false) : EndNo c a := by
  intro i w hi
  subst hi
  have ha1 : a + 1 ≤ c.size := by omega
  have hb : ((bt c a).toNat : Int) = 105 := by rw [hop]; rfl
  have HS := Lib.hid (skipTo_no hd)
  clear hop hd
  go_enter Tryz.func71, Tryz.ntmps71
  go_wp2_with fail
  refine (spec_l5Skip c (a + 1) 1 _ _ (by push_cast; rfl) hc ha1 (by decide)).mono ?_
  rintro e w' ⟨rfl, rfl⟩
  rw [HS.out]
  go_wp2_with fail
  refine (spec_l5End_neg _ _).mono ?_
  rintro e w' ⟨rfl, rfl⟩
  go_wp2_with fail
  refine (spec_l5End_neg _ _).mono ?_
  rintro e w' ⟨rfl, rfl⟩
  go_wp2_with fail
  go_ret
  exact ⟨rfl, rfl⟩

theorem spec_l5End_p105 (c : ByteArray) (hc : c.size ≤ 2147483648) (a : Nat) (ha : a < c.size) (hop : bt c a = 105) (hd : digOk c (a + 1) 1 = true) (hp : EndNo c (a + 2)) : EndNo c a := by
  intro i w hi
  subst hi
  have ha1 : a + 1 ≤ c.size := by omega
  have hb : ((bt c a).toNat : Int) = 105 := by rw [hop]; rfl
  have HS := Lib.hid (skipTo_yes hd)
  clear hop hd
  go_enter Tryz.func71, Tryz.ntmps71
  go_wp2_with fail
  refine (spec_l5Skip c (a + 1) 1 _ _ (by push_cast; rfl) hc ha1 (by decide)).mono ?_
  rintro e w' ⟨rfl, rfl⟩
  rw [HS.out]
  go_wp2_with fail
  refine (hp _ _ (by push_cast; omega)).mono ?_
  rintro e w' ⟨rfl, rfl⟩
  go_wp2_with fail
  refine (spec_l5End_neg _ _).mono ?_
  rintro e w' ⟨rfl, rfl⟩
  go_wp2_with fail
  go_ret
  exact ⟨rfl, rfl⟩

theorem spec_l5End_q105 (c : ByteArray) (hc : c.size ≤ 2147483648) (a : Nat) (ha : a < c.size) (hop : bt c a = 105) (hd : digOk c (a + 1) 1 = true) (x : Ct) (hx : EndYes c x) (hl : LiesAt c (a + 2) x) (hp : EndNo c (a + 2 + x.len)) : EndNo c a := by
  intro i w hi
  subst hi
  have ha1 : a + 1 ≤ c.size := by omega
  have hb : ((bt c a).toNat : Int) = 105 := by rw [hop]; rfl
  have HS := Lib.hid (skipTo_yes hd)
  clear hop hd
  go_enter Tryz.func71, Tryz.ntmps71
  go_wp2_with fail
  refine (spec_l5Skip c (a + 1) 1 _ _ (by push_cast; rfl) hc ha1 (by decide)).mono ?_
  rintro e w' ⟨rfl, rfl⟩
  rw [HS.out]
  go_wp2_with fail
  refine (hx (a + 2) _ _ (by push_cast; omega) hl).mono ?_
  rintro e w' ⟨rfl, rfl⟩
  go_wp2_with fail
  refine (hp _ _ (by push_cast; omega)).mono ?_
  rintro e w' ⟨rfl, rfl⟩
  go_wp2_with fail
  go_ret
  exact ⟨rfl, rfl⟩

theorem spec_l5End_no (c : ByteArray) (hc : c.size ≤ 2147483648) : ∀ (m a : Nat), c.size - a ≤ m → Nothing c a → EndNo c a := by
  intro m
  induction m with
  | zero =>
    intro a hm _ i w hi
    exact spec_l5End_past c a i w hi (by omega)
  | succ m ih =>
    intro a hm hno
    by_cases ha : a < c.size
    · cases hs : shp (bt c a) with
      | none => exact spec_l5End_none c a ha hs
      | some kn =>
        obtain ⟨k, n⟩ := kn
        have hkn := shp_le hs
        have hdt : digOk c (a + 1) n = true → a + 1 + n ≤ c.size ∧ (∀ j, j < n → 0 ≤ hx (bt c (a + 1 + j))) ∧ ∀ k ∈ digsAt c (a + 1) n, C k := fun h => ⟨digOk_size h, digOk_hx h, digsAt_c (digOk_hx h)⟩
        obtain rfl | rfl | rfl : k = 0 ∨ k = 1 ∨ k = 2 := by omega
        · have hd : digOk c (a + 1) n = false := by
            rw [Bool.eq_false_iff]; intro h
            obtain ⟨h1, h2, h3⟩ := hdt h
            exact hno ⟨.n0 (bt c a) (digsAt c (a + 1) n), ⟨by rw [digsAt_len]; exact hs, h3⟩, lies_n0 h1 h2⟩
          rcases shp0 hs with ⟨_, rfl⟩ | ⟨h | h, rfl⟩ | ⟨h | h, rfl⟩
          · exfalso
            have : digOk c (a + 1) 0 = true := digOk_of (by omega) (fun j hj => by omega)
            rw [this] at hd; cases hd
          · exact spec_l5End_d33 c hc a ha h hd
          · exact spec_l5End_d63 c hc a ha h hd
          · exact spec_l5End_d65 c hc a ha h hd
          · exact spec_l5End_d68 c hc a ha h hd
        · by_cases hd : digOk c (a + 1) n = true
          · obtain ⟨h1, h2, h3⟩ := hdt hd
            have hp : Nothing c (a + 1 + n) := fun ⟨x, hx, hl⟩ => hno ⟨.n1 (bt c a) (digsAt c (a + 1) n) x, ⟨⟨by rw [digsAt_len]; exact hs, h3⟩, hx⟩, lies_n1 h1 h2 hl⟩
            have hp' := ih (a + 1 + n) (by omega) hp
            rcases shp1 hs with ⟨h, rfl⟩ | ⟨h | h, rfl⟩
            · exact spec_l5End_p119 c hc a ha h hd hp'
            · exact spec_l5End_p42 c hc a ha h hd hp'
            · exact spec_l5End_p43 c hc a ha h hd hp'
          · have hd' : digOk c (a + 1) n = false := by simpa using hd
            rcases shp1 hs with ⟨h, rfl⟩ | ⟨_, rfl⟩
            · exact spec_l5End_d119 c hc a ha h hd'
            · exfalso
              have : digOk c (a + 1) 0 = true := digOk_of (by omega) (fun j hj => by omega)
              rw [this] at hd'; cases hd'
        · by_cases hd : digOk c (a + 1) n = true
          · obtain ⟨h1, h2, h3⟩ := hdt hd
            by_cases hx : ∃ x : Ct, x.WF ∧ LiesAt c (a + 1 + n) x
            · obtain ⟨x, hwx, hlx⟩ := hx
              have hp : Nothing c (a + 1 + n + x.len) := fun ⟨y, hy, hl⟩ => hno ⟨.n2 (bt c a) (digsAt c (a + 1) n) x y, ⟨⟨by rw [digsAt_len]; exact hs, h3⟩, hwx, hy⟩, lies_n2 h1 h2 hlx hl⟩
              have hp' := ih (a + 1 + n + x.len) (by have := x.len_pos; omega) hp
              have hx' := spec_l5End_yes c hc x hwx
              rcases shp2 hs with ⟨h | h | h, rfl⟩ | ⟨h, rfl⟩
              · exact spec_l5End_q59 c hc a ha h hd x hx' hlx hp'
              · exact spec_l5End_q38 c hc a ha h hd x hx' hlx hp'
              · exact spec_l5End_q124 c hc a ha h hd x hx' hlx hp'
              · exact spec_l5End_q105 c hc a ha h hd x hx' hlx hp'
            · have hp' := ih (a + 1 + n) (by omega) hx
              rcases shp2 hs with ⟨h | h | h, rfl⟩ | ⟨h, rfl⟩
              · exact spec_l5End_p59 c hc a ha h hd hp'
              · exact spec_l5End_p38 c hc a ha h hd hp'
              · exact spec_l5End_p124 c hc a ha h hd hp'
              · exact spec_l5End_p105 c hc a ha h hd hp'
          · have hd' : digOk c (a + 1) n = false := by simpa using hd
            rcases shp2 hs with ⟨_, rfl⟩ | ⟨h, rfl⟩
            · exfalso
              have : digOk c (a + 1) 0 = true := digOk_of (by omega) (fun j hj => by omega)
              rw [this] at hd'; cases hd'
            · exact spec_l5End_d105 c hc a ha h hd'
    · intro i w hi
      exact spec_l5End_past c a i w hi (by omega)

/-- is a text a contract? -/
noncomputable def isCt (c : ByteArray) : Bool := @decide (okCt c) (Classical.propDecidable _)
theorem isCt_iff {c : ByteArray} : isCt c = true ↔ okCt c := by unfold isCt; simp
theorem spec_ContractValid (c : ByteArray) (w : World) (hc : c.size ≤ 4611686018427387904) : Calls Tryz.prog 41 #[.string c] w fun e w' => e = .returned (.bool (isCt c)) ∧ w = w' := by
  by_cases hs : c.size ≤ 200
  · have h64 : c.size ≤ 2147483648 := by omega
    by_cases hx : ∃ t : Ct, t.WF ∧ LiesAt c 0 t
    · obtain ⟨t, ht, hl⟩ := hx
      have hy := spec_l5End_yes c h64 t ht
      have hv : isCt c = decide (t.len = c.size) := by
        rw [Bool.eq_iff_iff, isCt_iff, decide_eq_true_eq]
        constructor
        · rintro ⟨u, hu, rfl, _⟩
          rw [hl.uniq (lies_text u) ht hu, Ct.text_size]
        · intro e; exact ⟨t, ht, lies_whole hl e, hs⟩
      by_cases he : t.len = c.size
      · have e0 : ((t.len : Int) == (c.size : Int)) = true := by rw [beq_iff_eq]; omega
        have HV : Hid (isCt c = true) := by show _ = _; rw [hv, he]; simp
        clear hv
        go_enter Tryz.func41, Tryz.ntmps41
        go_wp2_with fail
        refine (hy 0 _ _ rfl hl).mono ?_
        rintro e w' ⟨rfl, rfl⟩
        rw [Nat.zero_add]
        go_wp2_with fail
        go_ret
        exact ⟨ret_bool HV.out.symm, rfl⟩
      · have e0 : ((t.len : Int) == (c.size : Int)) = false := by rw [beq_eq_false_iff_ne]; omega
        have HV : Hid (isCt c = false) := by show _ = _; rw [hv]; simp [he]
        clear hv
        go_enter Tryz.func41, Tryz.ntmps41
        go_wp2_with fail
        refine (hy 0 _ _ rfl hl).mono ?_
        rintro e w' ⟨rfl, rfl⟩
        rw [Nat.zero_add]
        go_wp2_with fail
        go_ret
        exact ⟨ret_bool HV.out.symm, rfl⟩
    · have hn := spec_l5End_no c h64 c.size 0 (by omega) hx
      have HV : Hid (isCt c = false) := by
        show _ = _
        rw [Bool.eq_false_iff]; intro h
        obtain ⟨t, ht, e, _⟩ := isCt_iff.1 h
        exact hx ⟨t, ht, by rw [e]; exact lies_text t⟩
      have e0 : ((-1 : Int) == (c.size : Int)) = false := by rw [beq_eq_false_iff_ne]; omega
      clear hx
      go_enter Tryz.func41, Tryz.ntmps41
      go_wp2_with fail
      refine (hn _ _ rfl).mono ?_
      rintro e w' ⟨rfl, rfl⟩
      go_wp2_with fail
      go_ret
      exact ⟨ret_bool HV.out.symm, rfl⟩
  · have HV : Hid (isCt c = false) := by
      show _ = _
      rw [Bool.eq_false_iff]; intro h
      obtain ⟨t, ht, e, h2⟩ := isCt_iff.1 h
      exact hs h2
    go_enter Tryz.func41, Tryz.ntmps41
    go_wp2_with fail
    go_ret
    exact ⟨ret_bool HV.out.symm, rfl⟩
end Go.Proofs.YtaeibhpkcikaaaaGreatDoor
