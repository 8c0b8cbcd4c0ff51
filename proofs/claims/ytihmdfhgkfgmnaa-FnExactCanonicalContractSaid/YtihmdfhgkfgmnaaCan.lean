/- Least conditions of families and canonical contracts. No program in sight. -/
import Derived.Test.YtihmdfhgkfgmnaaFam
import Derived.Test.YtihmdfhgkfgmnaaCt4
namespace Go.Proofs.Ytihmdfhgkfgmnaa
set_option linter.unusedVariables false
set_option linter.unusedSimpArgs false
open Go.RowKit

/-- does another condition of the family imply this one? -/
def lessIn (f : Int) (p : Nat) (j : Nat) : Bool := (List.range j).any fun q => ((p : Int) != (q : Int)) && has f q && (bits .andNot .i64 (q : Int) (p : Int) == 0)
/-- the conditions of a family that follow from no other one of it -/
def leastF (f : Int) : Int := mk (fun p => has f p && !lessIn f p 16) 16
def downIn (f : Int) (p : Nat) (acc : Int) : Nat → Int
  | 0 => acc
  | j + 1 => if ((p : Int) != (j : Int)) && has f j && (bits .andNot .i64 (j : Int) (p : Int) == 0) then bits .andNot .i64 (downIn f p acc j) (sh p) else downIn f p acc j
def downS (f : Int) : Nat → Int
  | 0 => f
  | k + 1 => downIn f k (downS f k) 16
theorem lessIn_succ (f : Int) (p j : Nat) : lessIn f p (j + 1) = (lessIn f p j || (((p : Int) != (j : Int)) && has f j && (bits .andNot .i64 (j : Int) (p : Int) == 0))) := by simp [lessIn, List.range_succ]
theorem downIn_fit {f : Int} {p : Nat} (hp : p < 16) {acc : Int} (h : Fit 16 acc) (j : Nat) : Fit 16 (downIn f p acc j) := by
  induction j with
  | zero => exact h
  | succ j ih =>
    simp only [downIn]; split
    · exact fit_dif (by decide) ih (fit_sh (by decide) hp)
    · exact ih
theorem downIn_has {f : Int} {p : Nat} (hp : p < 16) {acc : Int} (h : Fit 16 acc) (j : Nat) (i : Nat) : has (downIn f p acc j) i = (has acc i && !(decide (p = i) && lessIn f p j)) := by
  induction j with
  | zero => simp [downIn, lessIn]
  | succ j ih =>
    simp only [downIn]
    rw [lessIn_succ]
    cases hb : (((p : Int) != (j : Int)) && has f j && (bits .andNot .i64 (j : Int) (p : Int) == 0))
    · simp only [Bool.false_eq_true, if_false, ih, Bool.or_false]
    · simp only [if_true]
      rw [has_dif (downIn_fit hp h j) (fit_sh (by decide) hp), ih, has_sh hp]
      simp only [Bool.or_true, Bool.and_true]
      cases decide (p = i) <;> simp
theorem downS_fit {f : Int} (h : Fit 16 f) (k : Nat) (hk : k ≤ 16) : Fit 16 (downS f k) := by
  induction k with
  | zero => exact h
  | succ k ih => exact downIn_fit (by omega) (ih (by omega)) 16
theorem downS_has {f : Int} (h : Fit 16 f) (k : Nat) (hk : k ≤ 16) (i : Nat) : has (downS f k) i = (has f i && !(decide (i < k) && lessIn f i 16)) := by
  induction k with
  | zero => simp [downS]
  | succ k ih =>
    simp only [downS]
    rw [downIn_has (by omega) (downS_fit h k (by omega)), ih (by omega)]
    by_cases e : k = i
    · subst e
      have h1 : decide (k < k) = false := by simp
      have h2 : decide (k < k + 1) = true := by simp
      rw [h1, h2]; simp
    · have h1 : decide (k = i) = false := by simpa using e
      have h2 : decide (i < k + 1) = decide (i < k) := by rw [decide_eq_decide]; omega
      rw [h1, h2]; simp
theorem downS_least {f : Int} (h : Fit 16 f) : downS f 16 = leastF f := by
  refine has_ext (n := 16) (by decide) (downS_fit h 16 (by omega)) (fit_mk (by decide)) fun i hi => ?_
  rw [downS_has h 16 (by omega)]
  unfold leastF
  rw [has_mk _ (by decide)]
  simp [hi]
theorem leastF_fit (f : Int) : Fit 16 (leastF f) := fit_mk (by decide)
/-- the states from which a condition is one of the least that are guaranteed -/
def startsT (t : Nat → Int) (q : Nat) : Int := mk (fun s => has (leastF (famT t s)) q) 4
theorem startsT_c (t : Nat → Int) (q : Nat) : C (startsT t q) := C.mk
theorem startsT_congr {t t' : Nat → Int} (h : Eq16 t t') (q : Nat) : startsT t q = startsT t' q := mk_congr fun s _ => by rw [famT_congr h s]
/-- one alternative of a canonical contract -/
def oneB (st : Nat → Int) (q : Nat) : List UInt8 := [59, 33, dg (st q), 68, dg q, dg q, dg q, dg q]
def joinB : List (List UInt8) → List UInt8
  | [] => []
  | s :: l => if l = [] then s else 124 :: (s ++ joinB l)
/-- as the reference makes it: from the last condition on -/
def canL (st : Nat → Int) : List Nat → List UInt8
  | [] => []
  | q :: l => if st q == 0 then canL st l else if canL st l = [] then oneB st q else 124 :: (oneB st q ++ canL st l)
def onesB (st : Nat → Int) (l : List Nat) : List (List UInt8) := (l.filter fun q => st q != 0).map (oneB st)
theorem joinB_nil {l : List (List UInt8)} (h : ∀ s ∈ l, s ≠ []) : joinB l = [] ↔ l = [] := by
  cases l with
  | nil => simp [joinB]
  | cons s l =>
    simp only [joinB]
    split
    · simp [h s (by simp)]
    · simp
theorem onesB_ne (st : Nat → Int) (l : List Nat) : ∀ s ∈ onesB st l, s ≠ [] := by
  intro s hs
  simp only [onesB, List.mem_map] at hs
  obtain ⟨q, _, rfl⟩ := hs
  simp [oneB]
theorem canL_join (st : Nat → Int) (l : List Nat) : canL st l = joinB (onesB st l) := by
  induction l with
  | nil => rfl
  | cons q l ih =>
    simp only [canL, ih]
    by_cases h : (st q == 0) = true
    · rw [if_pos h]
      have h2 : (st q != 0) = false := by simp [bne, h]
      simp [onesB, h2]
    · have h2 : (st q != 0) = true := by simp [bne, h]
      rw [if_neg h]
      have e : onesB st (q :: l) = oneB st q :: onesB st l := by simp [onesB, h2]
      rw [e]
      simp only [joinB]
      by_cases hn : onesB st l = []
      · rw [if_pos hn, if_pos (by rw [hn]; rfl)]
      · rw [if_neg hn, if_neg (fun h => hn ((joinB_nil (onesB_ne st l)).1 h))]
/-- a canonical contract -/
def canonB (st : Nat → Int) : ByteArray := if onesB st (List.range 16) = [] then ⟨#[97]⟩ else ⟨(joinB (onesB st (List.range 16))).toArray⟩
theorem onesB_succ (st : Nat → Int) (k : Nat) : onesB st (List.range (k + 1)) = onesB st (List.range k) ++ if st k != 0 then [oneB st k] else [] := by
  simp only [onesB, List.range_succ, List.filter_append, List.map_append]
  congr 1
  cases h : (st k != 0)
  · have : (st k == 0) = true := by simpa [bne] using h
    simp [List.filter, h]
  · simp [List.filter, h]
theorem onesB_len (st : Nat → Int) (k : Nat) : (onesB st (List.range k)).length ≤ k := by
  have := List.length_filter_le (fun q => st q != 0) (List.range k)
  simpa [onesB] using this
theorem onesB_eight (st : Nat → Int) (l : List Nat) : ∀ s ∈ onesB st l, s.length = 8 := by
  intro s hs
  simp only [onesB, List.mem_map] at hs
  obtain ⟨q, _, rfl⟩ := hs
  rfl
theorem canL_len (st : Nat → Int) (l : List Nat) : (canL st l).length ≤ 9 * l.length := by
  induction l with
  | nil => simp [canL]
  | cons q l ih =>
    simp only [canL, List.length_cons]
    split
    · omega
    · split
      · simp [oneB]; omega
      · simp [oneB]; omega
theorem range'_cons (n : Nat) (hn : n < 16) : List.range' n (16 - n) = n :: List.range' (n + 1) (16 - (n + 1)) := by
  obtain ⟨m, hm⟩ : ∃ m, 16 - n = m + 1 := ⟨15 - n, by omega⟩
  rw [hm, List.range'_succ]
  congr 2
  omega
theorem canL_all (st : Nat → Int) : canL st (List.range' 0 16) = joinB (onesB st (List.range 16)) := by rw [canL_join, List.range_eq_range']
end Go.Proofs.Ytihmdfhgkfgmnaa
