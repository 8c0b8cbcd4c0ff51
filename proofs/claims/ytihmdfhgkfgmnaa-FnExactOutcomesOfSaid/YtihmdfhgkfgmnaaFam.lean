/- Plain functions on families of conditions. No program in sight. -/
import Derived.Test.YtihmdfhgkfgmnaaTab2
namespace Go.Proofs.Ytihmdfhgkfgmnaa
set_option linter.unusedVariables false
set_option linter.unusedSimpArgs false
open Go.RowKit

/-- the conditions for which state s meets what t tells -/
def famT (t : Nat → Int) (s : Nat) : Int := mk (fun p => has (t p) s) 16
theorem famT_fit (t : Nat → Int) (s : Nat) : Fit 16 (famT t s) := fit_mk (by decide)
/-- all conditions that follow from those of a family -/
def closeF (f : Int) : Int := mk (fun q => (List.range 16).any fun p => has f p && (bits .andNot .i64 (p : Int) (q : Int) == 0)) 16
theorem closeF_fit (f : Int) : Fit 16 (closeF f) := fit_mk (by decide)
/-- .. as the reference gathers them -/
def upIn (p : Nat) (acc : Int) : Nat → Int
  | 0 => acc
  | j + 1 => if bits .andNot .i64 (p : Int) (j : Int) == 0 then bits .or .i64 (upIn p acc j) (sh j) else upIn p acc j
def upS (f : Int) : Nat → Int
  | 0 => 0
  | k + 1 => if has f k then upIn k (upS f k) 16 else upS f k
theorem upIn_fit {p : Nat} {acc : Int} (h : Fit 16 acc) (j : Nat) (hj : j ≤ 16) : Fit 16 (upIn p acc j) := by
  induction j with
  | zero => exact h
  | succ j ih =>
    have h1 := ih (by omega)
    simp only [upIn]; split
    · exact fit_or (by decide) h1 (fit_sh (by decide) (by omega))
    · exact h1
theorem upIn_has {p : Nat} {acc : Int} (h : Fit 16 acc) (j : Nat) (hj : j ≤ 16) (i : Nat) : has (upIn p acc j) i = (has acc i || (decide (i < j) && (bits .andNot .i64 (p : Int) (i : Int) == 0))) := by
  induction j with
  | zero => simp [upIn]
  | succ j ih =>
    have h1 := ih (by omega)
    simp only [upIn]
    cases hb : (bits .andNot .i64 (p : Int) (j : Int) == 0)
    · simp only [Bool.false_eq_true, if_false, h1]
      by_cases e : i = j
      · subst e; simp [hb]
      · congr 2; simp; omega
    · simp only [if_true]
      rw [has_or (upIn_fit h j (by omega)) (fit_sh (by decide) (by omega)), h1, has_sh (by omega)]
      by_cases e : j = i
      · subst e; simp [hb]
      · have : (decide (j = i)) = false := by simp [e]
        rw [this, Bool.or_false]
        congr 2; simp; omega
theorem upS_fit (f : Int) (k : Nat) (hk : k ≤ 16) : Fit 16 (upS f k) := by
  induction k with
  | zero => exact ⟨by simp [upS], by simp [upS]⟩
  | succ k ih =>
    have h1 := ih (by omega)
    simp only [upS]; split
    · exact upIn_fit h1 16 (by omega)
    · exact h1
theorem upS_has (f : Int) (k : Nat) (hk : k ≤ 16) (i : Nat) (hi : i < 16) : has (upS f k) i = (List.range k).any fun p => has f p && (bits .andNot .i64 (p : Int) (i : Int) == 0) := by
  induction k with
  | zero => simp [upS, has_zero]
  | succ k ih =>
    have h1 := ih (by omega)
    rw [List.range_succ, List.any_append, ← h1]
    simp only [upS, List.any_cons, List.any_nil, Bool.or_false]
    cases hf : has f k
    · simp
    · simp only [if_true, Bool.true_and]
      rw [upIn_has (upS_fit f k (by omega)) 16 (by omega)]
      simp [hi]
theorem upS_close (f : Int) : upS f 16 = closeF f := by
  refine has_ext (n := 16) (by decide) (upS_fit f 16 (by omega)) (closeF_fit f) fun i hi => ?_
  unfold closeF
  rw [upS_has f 16 (by omega) i hi, has_mk _ (by decide)]
  simp [hi]
/-- the transformer of four families -/
def transOfT (fam : Nat → Int) : Nat → Int := fun p => mk (fun s => has (closeF (fam s)) p) 4
theorem transOfT_ok (fam : Nat → Int) : Cond (transOfT fam) := fun _ => C.mk
theorem transOfT_congr {f g : Nat → Int} (h : ∀ s, s < 4 → f s = g s) : Eq16 (transOfT f) (transOfT g) := fun p _ => mk_congr fun s hs => by rw [h s hs]
/-- the families that are missing in t -/
def missT (t u : Nat → Int) (s : Nat) : Int := bits .andNot .i64 (famT u s) (famT t s)
theorem missT_fit (t u : Nat → Int) (s : Nat) : Fit 16 (missT t u s) := fit_dif (by decide) (famT_fit u s) (famT_fit t s)
theorem famT_congr {t t' : Nat → Int} (h : Eq16 t t') (s : Nat) : famT t s = famT t' s := mk_congr fun p hp => by rw [h p hp]
/-- the least that, chosen beside t by the angel, refines u -/
def besideT (t u : Nat → Int) : Nat → Int := transOfT (missT t u)
theorem besideT_ok (t u : Nat → Int) : Cond (besideT t u) := transOfT_ok _
theorem Eq16.beside {t t' u u' : Nat → Int} (h : Eq16 t t') (k : Eq16 u u') : Eq16 (besideT t u) (besideT t' u') :=
  transOfT_congr fun s _ => by unfold missT; rw [famT_congr h, famT_congr k]
/-- the greatest that, chosen beside t by the demon, is refined by u -/
def besideD (t u : Nat → Int) : Nat → Int := dualT (besideT (dualT t) (dualT u))
theorem besideD_ok (t u : Nat → Int) : Cond (besideD t u) := dualT_ok (besideT_ok _ _)
theorem fit16_le {f : Int} (h : Fit 16 f) : 0 ≤ f ∧ f ≤ 65535 := ⟨h.1, by have : f < 65536 := h.2; omega⟩
end Go.Proofs.Ytihmdfhgkfgmnaa
