/- The text of numbers: what it is as a list of bytes. No program in sight. -/
import Derived.Test.YtaeibhpkcikaaaaDoorPure
import Derived.Lib.ItoaNum
import Derived.Lib.Join
namespace Go.Proofs.YtaeibhpkcikaaaaDoor
set_option linter.unusedVariables false
set_option linter.unusedSimpArgs false
open Go.RowKit

/-- the numbers' numerals, a space between two -/
def fmtL (xs : List Int) : List UInt8 := Lib.join (xs.map Lib.itoa) [32]
theorem fmtL_nil : fmtL [] = [] := rfl
theorem fmtL_one (n : Int) : fmtL [n] = Lib.itoa n := Lib.join_one _ _
theorem fmtL_cons (x : Int) (r : List Int) : fmtL (x :: r) = Lib.itoa x ++ Lib.joinTail [32] (r.map Lib.itoa) := Lib.join_cons _ _ _
theorem fmtL_take (xs : List Int) (k : Nat) (n : Int) (h : xs[k]? = some n) : fmtL (xs.take (k + 1)) = if k = 0 then Lib.itoa n else fmtL (xs.take k) ++ ([32] ++ Lib.itoa n) := by
  cases xs with
  | nil => simp at h
  | cons x r =>
    cases k with
    | zero => simp at h; subst h; rw [if_pos rfl]; exact fmtL_one x
    | succ k =>
      simp only [List.getElem?_cons_succ] at h
      rw [if_neg (by omega), List.take_succ_cons, List.take_succ_cons, fmtL_cons, fmtL_cons, List.map_take, List.map_take]
      rw [Lib.joinTail_take_succ [32] (r.map Lib.itoa) k (Lib.itoa n) (by rw [List.getElem?_map, h]; rfl)]
      simp
theorem decDigits_le (k : Nat) : ∀ u : Nat, u < 10 ^ (k + 1) → (Lib.decDigits u).length ≤ k + 1 := by
  induction k with
  | zero => intro u h; rw [Lib.decDigits, dif_pos (by simpa using h)]; simp
  | succ k ih =>
    intro u h
    rw [Lib.decDigits]
    split
    · simp
    · have := ih (u / 10) (by rw [Nat.pow_succ] at h; omega)
      rw [List.length_append]; simp only [List.length_cons, List.length_nil]; omega
theorem decDigits_ne (u : Nat) : Lib.decDigits u ≠ [] := by
  rw [Lib.decDigits]; split <;> simp
theorem itoa_ne (n : Int) : Lib.itoa n ≠ [] := by
  unfold Lib.itoa; split
  · simp
  · exact decDigits_ne _
theorem itoa_le {n : Int} (h0 : -9223372036854775808 ≤ n) (h1 : n ≤ 9223372036854775807) : (Lib.itoa n).length ≤ 20 := by
  unfold Lib.itoa; split
  · have := decDigits_le 18 n.natAbs (by have : n.natAbs ≤ 9223372036854775808 := by omega
                                         exact Nat.lt_of_le_of_lt this (by decide))
    simp only [List.length_cons]; omega
  · have := decDigits_le 18 n.toNat (by have : n.toNat ≤ 9223372036854775807 := by omega
                                        exact Nat.lt_of_le_of_lt this (by decide))
    omega
/-- all are 64-bit numbers -/
def I64 (xs : List Int) : Prop := ∀ x ∈ xs, -9223372036854775808 ≤ x ∧ x ≤ 9223372036854775807
theorem joinTail_le (r : List Int) (h : I64 r) : (Lib.joinTail [32] (r.map Lib.itoa)).length ≤ 21 * r.length := by
  induction r with
  | nil => simp [Lib.joinTail]
  | cons x r ih =>
    have h1 := ih fun y hy => h y (by simp [hy])
    have h2 := itoa_le (h x (by simp)).1 (h x (by simp)).2
    simp only [Lib.joinTail, List.map_cons, List.flatten_cons, List.length_append, List.length_cons, List.length_nil] at h1 ⊢
    omega
theorem fmtL_le (xs : List Int) (h : I64 xs) : (fmtL xs).length ≤ 21 * xs.length := by
  cases xs with
  | nil => simp [fmtL_nil]
  | cons x r =>
    have h1 := joinTail_le r fun y hy => h y (by simp [hy])
    have h2 := itoa_le (h x (by simp)).1 (h x (by simp)).2
    rw [fmtL_cons, List.length_append, List.length_cons]; omega
theorem I64.take {xs : List Int} (h : I64 xs) (k : Nat) : I64 (xs.take k) := fun x hx => h x (List.mem_of_mem_take hx)
theorem fmtL_ne {xs : List Int} (h : xs ≠ []) : fmtL xs ≠ [] := by
  cases xs with
  | nil => exact absurd rfl h
  | cons x r => rw [fmtL_cons]; intro h0; exact itoa_ne x (List.append_eq_nil_iff.1 h0).1
/-- the text of numbers -/
def fmtB (xs : List Int) : ByteArray := if xs = [] then ⟨#[45]⟩ else ⟨(fmtL xs).toArray⟩
theorem minNum : Lib.itoa (-9223372036854775808) = [45, 57, 50, 50, 51, 51, 55, 50, 48, 51, 54, 56, 53, 52, 55, 55, 53, 56, 48, 56] := by
  have h : Lib.decDigits 9223372036854775808 = [57, 50, 50, 51, 51, 55, 50, 48, 51, 54, 56, 53, 52, 55, 55, 53, 56, 48, 56] := by
    rw [Lib.decDigits_eq, Lib.nDigits_unique 18 9223372036854775808 (by decide) (by decide)]
    decide
  unfold Lib.itoa
  rw [if_pos (by decide)]
  exact congrArg (45 :: ·) h
theorem itoa_neg {n : Int} (h : n < 0) (u : Nat) (hu : (u : Int) = -n) : Lib.itoa n = 45 :: Lib.decDigits u := by
  unfold Lib.itoa
  rw [if_pos h, show n.natAbs = u by omega]
theorem itoa_nat (u : Nat) : Lib.itoa (u : Int) = Lib.decDigits u := by
  unfold Lib.itoa
  rw [if_neg (by omega), Int.toNat_natCast]
theorem decDigits_big {u : Nat} (h : ¬ u < 10) : Lib.decDigits u = Lib.decDigits (u / 10) ++ [UInt8.ofNat (48 + u % 10)] := by
  rw [Lib.decDigits, dif_neg h]
theorem decDigits_small {u : Nat} (h : u < 10) : Lib.decDigits u = [UInt8.ofNat (48 + u)] := by
  rw [Lib.decDigits, dif_pos h]
end Go.Proofs.YtaeibhpkcikaaaaDoor
