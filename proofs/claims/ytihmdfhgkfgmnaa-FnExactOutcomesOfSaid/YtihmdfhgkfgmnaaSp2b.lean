/- Contracts: the reference's exported functions on relations and views. -/
import Derived.Test.YtihmdfhgkfgmnaaIm2b
namespace Go.Proofs.Ytihmdfhgkfgmnaa
set_option linter.unusedVariables false
set_option linter.unusedSimpArgs false
open Go.RowKit Go.Shelf
set_option maxRecDepth 100000
set_option maxHeartbeats 1000000

theorem dia_congr {r q : Nat → Int} (h : ∀ k, k < 4 → r k = q k) (p : Int) : dia r p = dia q p := by
  unfold dia mk
  simp only [orf, h 0 (by decide), h 1 (by decide), h 2 (by decide), h 3 (by decide)]
theorem box_congr {r q : Nat → Int} (h : ∀ k, k < 4 → r k = q k) (p : Int) : box r p = box q p := by
  unfold box mk
  simp only [orf, h 0 (by decide), h 1 (by decide), h 2 (by decide), h 3 (by decide)]
/-- a box is no diamond of the others -/
theorem box_notp {r : Nat → Int} (hr : Cond r) {p : Int} (hp : C p) : notp (dia r (notp p)) = box r p := by
  refine C.ext (notp_ok (dia_ok _ _)) (box_ok _ _) fun i hi => ?_
  rw [has_notp (dia_ok _ _) hi]
  unfold dia box
  rw [has_mk _ (by decide), has_mk _ (by decide)]
  simp only [hi, decide_true, Bool.true_and]
  have e : bits .and .i64 (r i) (notp p) = bits .andNot .i64 (r i) p := by
    refine C.ext (C.and (hr i) (notp_ok hp)) (C.dif (hr i) hp) fun j hj => ?_
    rw [has_and (C.fit16 (hr i)) (C.fit16 (notp_ok hp)), has_dif (C.fit16 (hr i)) (C.fit16 hp), has_notp hp hj]
  rw [e]
  cases h : (bits .andNot .i64 (r i) p == 0) <;> simp_all [bne]
/-- the states that lead into one state -/
theorem dia_sh {r : Nat → Int} (hr : Cond r) {t : Nat} (ht : t < 4) : dia r (sh t) = turn r t := by
  refine C.ext (dia_ok _ _) C.mk fun i hi => ?_
  unfold dia turn
  rw [has_mk _ (by decide), has_mk _ (by decide)]
  simp only [hi, decide_true, Bool.true_and]
  have hs : C (sh t) := (fit_sh (n := 4) (by decide) ht).c
  rw [Bool.eq_iff_iff]
  constructor
  · intro h
    cases hh : has (r i) t
    · exfalso
      have e : bits .and .i64 (r i) (sh t) = 0 := C.ext (C.and (hr i) hs) C.zero fun j hj => by
        rw [has_and (C.fit16 (hr i)) (C.fit16 hs), has_sh (by omega), has_zero]
        by_cases e : t = j
        · subst e; simp [hh]
        · simp [e]
      rw [e] at h; simp at h
    · rfl
  · intro h
    rw [bne_iff_ne]
    intro e
    have := congrArg (fun x => has x t) e
    simp only [has_and (C.fit16 (hr i)) (C.fit16 hs), has_sh (show t < 16 by omega), has_zero, h] at this
    simp at this
theorem turn_ok (r : Nat → Int) : Cond (turn r) := fun _ => C.mk

theorem spec_l2Turn' (r : ByteArray) (w : World) (H : Hid (okTxt 4 r = true)) : Calls Try.prog 100 #[.string r] w fun e w' => e = .returned (.string (txt 4 (turn (val r)))) ∧ w = w' := by
  refine (spec_l2Turn r w H).mono ?_
  rintro e w' ⟨rfl, rfl⟩
  exact ⟨ret_str (txt_ext fun k hk => dia_sh (val_ok r) hk), rfl⟩

end Go.Proofs.Ytihmdfhgkfgmnaa
