/- Plain facts on the bits of small numbers. No program in sight. -/
import Derived.Test.YtihmdfhgkfgmnaaPure
namespace Go.Proofs.Ytihmdfhgkfgmnaa
set_option linter.unusedVariables false
set_option linter.unusedSimpArgs false
open Go.RowKit

theorem ofInt_nat (a : Nat) (ha : a < 65536) : (BitVec.ofInt 64 (a : Int)).toNat = a := by
  rw [show BitVec.ofInt 64 (a : Int) = BitVec.ofNat 64 a from by simp]
  simp; omega
theorem wrap_small (a : Nat) (ha : a < 65536) : IntKind.i64.wrap (a : Int) = a := by rw [IntKind.wrap_i64]; omega
theorem and_nat (a b : Nat) (ha : a < 65536) (hb : b < 65536) : bits .and .i64 a b = ((a &&& b : Nat) : Int) := by
  show IntKind.i64.wrap ((BitVec.ofInt 64 (a : Int) &&& BitVec.ofInt 64 (b : Int)).toNat : Nat) = _
  rw [BitVec.toNat_and, ofInt_nat a ha, ofInt_nat b hb]
  exact wrap_small _ (Nat.lt_of_le_of_lt Nat.and_le_left ha)
theorem or_nat (a b : Nat) (ha : a < 65536) (hb : b < 65536) : bits .or .i64 a b = ((a ||| b : Nat) : Int) := by
  show IntKind.i64.wrap ((BitVec.ofInt 64 (a : Int) ||| BitVec.ofInt 64 (b : Int)).toNat : Nat) = _
  rw [BitVec.toNat_or, ofInt_nat a ha, ofInt_nat b hb]
  exact wrap_small _ (Nat.or_lt_two_pow (n := 16) ha hb)
theorem not_bv (x y : BitVec 64) : x &&& ~~~y = x ^^^ (x &&& y) := by
  apply BitVec.eq_of_getLsbD_eq
  intro i hi
  simp only [BitVec.getLsbD_and, BitVec.getLsbD_not, BitVec.getLsbD_xor, hi, decide_true, Bool.true_and]
  cases x.getLsbD i <;> cases y.getLsbD i <;> rfl
theorem dif_nat (a b : Nat) (ha : a < 65536) (hb : b < 65536) : bits .andNot .i64 a b = ((a ^^^ (a &&& b) : Nat) : Int) := by
  show IntKind.i64.wrap ((BitVec.ofInt 64 (a : Int) &&& ~~~BitVec.ofInt 64 (b : Int)).toNat : Nat) = _
  rw [not_bv, BitVec.toNat_xor, BitVec.toNat_and, ofInt_nat a ha, ofInt_nat b hb]
  exact wrap_small _ (Nat.xor_lt_two_pow (n := 16) ha (Nat.lt_of_le_of_lt Nat.and_le_left ha))

/-- a number below 2^n -/
def Fit (n : Nat) (p : Int) : Prop := 0 ≤ p ∧ p < 2 ^ n
theorem fit_nat {n : Nat} {p : Int} (h : Fit n p) : ∃ a : Nat, p = a ∧ a < 2 ^ n := by
  obtain ⟨a, rfl⟩ := Int.eq_ofNat_of_zero_le h.1
  exact ⟨a, rfl, by have := h.2; exact_mod_cast this⟩
theorem fit_of_nat {n a : Nat} (h : a < 2 ^ n) : Fit n (a : Int) := ⟨by omega, by exact_mod_cast h⟩
theorem fit_mono {m n : Nat} {p : Int} (h : Fit m p) (hmn : m ≤ n) : Fit n p := by
  obtain ⟨a, rfl, ha⟩ := fit_nat h
  exact fit_of_nat (Nat.lt_of_lt_of_le ha (Nat.pow_le_pow_right (by decide) hmn))
theorem pow16 {n a : Nat} (hn : n ≤ 16) (h : a < 2 ^ n) : a < 65536 := Nat.lt_of_lt_of_le h (Nat.pow_le_pow_right (by decide) hn : 2 ^ n ≤ 2 ^ 16)
theorem fit_and {n : Nat} (hn : n ≤ 16) {p q : Int} (h : Fit n p) (k : Fit n q) : Fit n (bits .and .i64 p q) := by
  obtain ⟨a, rfl, ha⟩ := fit_nat h; obtain ⟨b, rfl, hb⟩ := fit_nat k
  rw [and_nat a b (pow16 hn ha) (pow16 hn hb)]; exact fit_of_nat (Nat.lt_of_le_of_lt Nat.and_le_left ha)
theorem fit_or {n : Nat} (hn : n ≤ 16) {p q : Int} (h : Fit n p) (k : Fit n q) : Fit n (bits .or .i64 p q) := by
  obtain ⟨a, rfl, ha⟩ := fit_nat h; obtain ⟨b, rfl, hb⟩ := fit_nat k
  rw [or_nat a b (pow16 hn ha) (pow16 hn hb)]; exact fit_of_nat (Nat.or_lt_two_pow ha hb)
theorem fit_dif {n : Nat} (hn : n ≤ 16) {p q : Int} (h : Fit n p) (k : Fit n q) : Fit n (bits .andNot .i64 p q) := by
  obtain ⟨a, rfl, ha⟩ := fit_nat h; obtain ⟨b, rfl, hb⟩ := fit_nat k
  rw [dif_nat a b (pow16 hn ha) (pow16 hn hb)]; exact fit_of_nat (Nat.xor_lt_two_pow ha (Nat.lt_of_le_of_lt Nat.and_le_left ha))

theorem has_nat (a k : Nat) (ha : a < 65536) : has (a : Int) k = a.testBit k := by
  unfold has
  have e : ((a : Int) / 2 ^ k) = ((a / 2 ^ k : Nat) : Int) := by push_cast; rfl
  have hlt : a / 2 ^ k < 65536 := Nat.lt_of_le_of_lt (Nat.div_le_self _ _) ha
  rw [e, show (1 : Int) = ((1 : Nat) : Int) from rfl, and_nat _ 1 hlt (by decide)]
  rw [Nat.testBit, Nat.shiftRight_eq_div_pow, Nat.and_comm]
  have h2 : 1 &&& a / 2 ^ k = 0 ∨ 1 &&& a / 2 ^ k = 1 := by
    have := @Nat.and_le_left 1 (a / 2 ^ k); omega
  rcases h2 with h | h <;> simp [h]
theorem has_and {p q : Int} (h : Fit 16 p) (k : Fit 16 q) (i : Nat) : has (bits .and .i64 p q) i = (has p i && has q i) := by
  obtain ⟨a, rfl, ha⟩ := fit_nat h; obtain ⟨b, rfl, hb⟩ := fit_nat k
  rw [and_nat a b ha hb, has_nat _ _ (Nat.lt_of_le_of_lt Nat.and_le_left ha), has_nat a i ha, has_nat b i hb, Nat.testBit_and]
theorem has_or {p q : Int} (h : Fit 16 p) (k : Fit 16 q) (i : Nat) : has (bits .or .i64 p q) i = (has p i || has q i) := by
  obtain ⟨a, rfl, ha⟩ := fit_nat h; obtain ⟨b, rfl, hb⟩ := fit_nat k
  rw [or_nat a b ha hb, has_nat _ _ (Nat.or_lt_two_pow (n := 16) ha hb), has_nat a i ha, has_nat b i hb, Nat.testBit_or]
theorem has_dif {p q : Int} (h : Fit 16 p) (k : Fit 16 q) (i : Nat) : has (bits .andNot .i64 p q) i = (has p i && !has q i) := by
  obtain ⟨a, rfl, ha⟩ := fit_nat h; obtain ⟨b, rfl, hb⟩ := fit_nat k
  rw [dif_nat a b ha hb, has_nat _ _ (Nat.xor_lt_two_pow (n := 16) ha (Nat.lt_of_le_of_lt Nat.and_le_left ha)), has_nat a i ha, has_nat b i hb, Nat.testBit_xor, Nat.testBit_and]
  cases a.testBit i <;> cases b.testBit i <;> rfl
theorem has_ge {n : Nat} {p : Int} (h : Fit n p) (hn : n ≤ 16) (i : Nat) (hi : n ≤ i) : has p i = false := by
  obtain ⟨a, rfl, ha⟩ := fit_nat h
  rw [has_nat a i (pow16 hn ha)]
  exact Nat.testBit_lt_two_pow (Nat.lt_of_lt_of_le ha (Nat.pow_le_pow_right (by decide) hi))
theorem has_ext {n : Nat} {p q : Int} (hn : n ≤ 16) (h : Fit n p) (k : Fit n q) (e : ∀ i, i < n → has p i = has q i) : p = q := by
  have e' : ∀ i, has p i = has q i := fun i => by
    rcases Nat.lt_or_ge i n with hi | hi
    · exact e i hi
    · rw [has_ge h hn i hi, has_ge k hn i hi]
  obtain ⟨a, rfl, ha⟩ := fit_nat h; obtain ⟨b, rfl, hb⟩ := fit_nat k
  have : a = b := Nat.eq_of_testBit_eq fun i => by
    have := e' i; rwa [has_nat a i (pow16 hn ha), has_nat b i (pow16 hn hb)] at this
  rw [this]
theorem has_zero (i : Nat) : has 0 i = false := by
  have := has_nat 0 i (by decide); simpa using this
theorem sh_eq {k : Nat} (h : k < 16) : sh k = ((2 ^ k : Nat) : Int) := by
  unfold sh wrap64
  have h1 : (2 : Nat) ^ k < 65536 := Nat.pow_lt_pow_right (m := k) (n := 16) (by decide) h
  have e : ((2 : Int) ^ k) = ((2 ^ k : Nat) : Int) := by push_cast; rfl
  rw [e]
  generalize (2 : Nat) ^ k = A at h1
  omega
theorem fit_sh {n k : Nat} (hn : n ≤ 16) (h : k < n) : Fit n (sh k) := by
  rw [sh_eq (by omega)]; exact fit_of_nat (Nat.pow_lt_pow_right (by decide) h)
theorem has_sh {k : Nat} (h : k < 16) (i : Nat) : has (sh k) i = decide (k = i) := by
  rw [sh_eq h, has_nat _ i (Nat.pow_lt_pow_right (n := 16) (by decide) h), Nat.testBit_two_pow]

theorem fit_orf {m : Nat} (hm : m ≤ 16) (b : Nat → Bool) (g : Nat → Int) (n : Nat) (hg : ∀ k, k < n → Fit m (g k)) : Fit m (orf b g n) := by
  induction n with
  | zero => exact ⟨by simp [orf], by simp only [orf]; exact_mod_cast Nat.two_pow_pos m⟩
  | succ n ih =>
    have h1 := ih fun k hk => hg k (by omega)
    simp only [orf]; split
    · exact fit_or hm h1 (hg n (by omega))
    · exact h1
theorem has_orf {m : Nat} (hm : m ≤ 16) (b : Nat → Bool) (g : Nat → Int) (n : Nat) (hg : ∀ k, k < n → Fit m (g k)) (i : Nat) :
    has (orf b g n) i = (List.range n).any fun k => b k && has (g k) i := by
  induction n with
  | zero => simp [orf, has_zero]
  | succ n ih =>
    have h0 : ∀ k, k < n → Fit m (g k) := fun k hk => hg k (by omega)
    have h1 := fit_mono (fit_orf hm b g n h0) hm
    have h2 := fit_mono (hg n (by omega)) hm
    rw [List.range_succ, List.any_append, ← ih h0]
    simp only [orf]
    cases hb : b n
    · simp [hb]
    · simp [hb, has_or h1 h2]
theorem fit_andf {b : Nat → Bool} {g : Nat → Int} (n : Nat) (hg : ∀ k, k < n → Fit 4 (g k)) : Fit 4 (andf b g n) := by
  induction n with
  | zero => exact ⟨by simp [andf], by simp [andf]⟩
  | succ n ih =>
    have h1 := ih fun k hk => hg k (by omega)
    simp only [andf]; split
    · exact fit_and (by decide) h1 (hg n (by omega))
    · exact h1
theorem has_15 {i : Nat} (h : i < 4) : has 15 i = true := by
  have h' : i = 0 ∨ i = 1 ∨ i = 2 ∨ i = 3 := by omega
  have e := has_nat 15 i (by decide)
  rw [show (15 : Int) = ((15 : Nat) : Int) from rfl, e]
  rcases h' with rfl | rfl | rfl | rfl <;> decide
theorem has_andf (b : Nat → Bool) (g : Nat → Int) (n : Nat) (hg : ∀ k, k < n → Fit 4 (g k)) (i : Nat) (hi : i < 4) :
    has (andf b g n) i = (List.range n).all fun k => !b k || has (g k) i := by
  induction n with
  | zero => simp [andf, has_15 hi]
  | succ n ih =>
    have h0 : ∀ k, k < n → Fit 4 (g k) := fun k hk => hg k (by omega)
    have h1 := fit_mono (fit_andf (b := b) n h0) (n := 16) (by decide)
    have h2 := fit_mono (hg n (by omega)) (n := 16) (by decide)
    rw [List.range_succ, List.all_append, ← ih h0]
    simp only [andf]
    cases hb : b n
    · simp [hb]
    · simp [hb, has_and h1 h2]
theorem fit_mk {b : Nat → Bool} {n : Nat} (hn : n ≤ 16) : Fit n (mk b n) := fit_orf hn b sh n fun _ hk => fit_sh hn hk
theorem has_mk (b : Nat → Bool) {n : Nat} (hn : n ≤ 16) (i : Nat) : has (mk b n) i = (decide (i < n) && b i) := by
  unfold mk
  rw [has_orf hn b sh n (fun _ hk => fit_sh hn hk), Bool.eq_iff_iff]
  simp only [List.any_eq_true, List.mem_range, Bool.and_eq_true, decide_eq_true_eq]
  constructor
  · rintro ⟨k, hk, hb, h⟩
    rw [has_sh (by omega)] at h
    obtain rfl : k = i := by simpa using h
    exact ⟨hk, hb⟩
  · rintro ⟨hi, hb⟩
    exact ⟨i, hi, hb, by rw [has_sh (by omega)]; simp⟩

/-! ### conditions -/
abbrev C (p : Int) : Prop := 0 ≤ p ∧ p ≤ 15
theorem C.fit {p : Int} (h : C p) : Fit 4 p := ⟨h.1, by have := h.2; show p < 16; omega⟩
theorem Fit.c {p : Int} (h : Fit 4 p) : C p := ⟨h.1, by have : p < 16 := h.2; omega⟩
theorem C.fit16 {p : Int} (h : C p) : Fit 16 p := fit_mono h.fit (by decide)
theorem C.and {p q : Int} (h : C p) (k : C q) : C (bits .and .i64 p q) := (fit_and (by decide) h.fit k.fit).c
theorem C.or {p q : Int} (h : C p) (k : C q) : C (bits .or .i64 p q) := (fit_or (by decide) h.fit k.fit).c
theorem C.dif {p q : Int} (h : C p) (k : C q) : C (bits .andNot .i64 p q) := (fit_dif (by decide) h.fit k.fit).c
theorem C.mk {b : Nat → Bool} : C (mk b 4) := (fit_mk (by decide)).c
theorem C.ext {p q : Int} (h : C p) (k : C q) (e : ∀ i, i < 4 → has p i = has q i) : p = q := has_ext (by decide) h.fit k.fit e
theorem C.zero : C 0 := ⟨by decide, by decide⟩
theorem C.all : C 15 := ⟨by decide, by decide⟩
theorem dia_ok (r : Nat → Int) (p : Int) : C (dia r p) := C.mk
theorem box_ok (r : Nat → Int) (p : Int) : C (box r p) := C.mk
theorem img_ok {r : Nat → Int} (h : Cond r) (p : Int) : C (img r p) := (fit_orf (by decide) _ _ 4 fun k _ => C.fit (h k)).c
theorem notp_ok {p : Int} (h : C p) : C (notp p) := C.all.dif h
theorem has_notp {p : Int} (h : C p) {i : Nat} (hi : i < 4) : has (notp p) i = !has p i := by
  unfold notp; rw [has_dif C.all.fit16 h.fit16, has_15 hi]; rfl
theorem has_4 {p : Int} (h : C p) {i : Nat} (hi : 4 ≤ i) : has p i = false := has_ge h.fit (by decide) i hi
end Go.Proofs.Ytihmdfhgkfgmnaa
