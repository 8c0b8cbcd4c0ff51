/- Plain functions on tables: residuals, families, and what tables that agree below sixteen share. No program in sight. -/
import Derived.Test.YtihmdfhgkfgmnaaTab
namespace Go.Proofs.Ytihmdfhgkfgmnaa
set_option linter.unusedVariables false
set_option linter.unusedSimpArgs false
open Go.RowKit

/-- the least that, ahead of t, refines u -/
def leastT (t u : Nat → Int) : Nat → Int := fun p => orf (fun q => bits .andNot .i64 (t q) (p : Int) == 0) u 16
/-- the greatest that, ahead of t, u refines -/
def mostT (t u : Nat → Int) : Nat → Int := fun p => andf (fun q => bits .andNot .i64 (p : Int) (t q) == 0) u 16
theorem leastT_ok {t u : Nat → Int} (hu : Cond u) : Cond (leastT t u) := fun _ => (fit_orf (by decide) _ _ 16 fun k _ => C.fit (hu k)).c
theorem mostT_ok {t u : Nat → Int} (hu : Cond u) : Cond (mostT t u) := fun _ => (fit_andf 16 fun k _ => C.fit (hu k)).c

def Eq16 (f g : Nat → Int) : Prop := ∀ k, k < 16 → f k = g k
theorem Eq16.refl (f : Nat → Int) : Eq16 f f := fun _ _ => rfl
theorem Eq16.symm {f g : Nat → Int} (h : Eq16 f g) : Eq16 g f := fun k hk => (h k hk).symm
theorem Eq16.trans {f g h : Nat → Int} (a : Eq16 f g) (b : Eq16 g h) : Eq16 f h := fun k hk => (a k hk).trans (b k hk)
theorem eq16_txt {f : Nat → Int} (hf : Cond f) : Eq16 (val (txt 16 f)) f := fun k hk => val_txt 16 f hf k hk
theorem Eq16.txt {f g : Nat → Int} (h : Eq16 f g) : txt 16 f = txt 16 g := txt_ext h
theorem lt16 {p : Int} (h : C p) : p.toNat < 16 := by have := h.1; have := h.2; omega
theorem Eq16.then {t t' u u' : Nat → Int} (h : Eq16 t t') (k : Eq16 u u') (hu : Cond u') : Eq16 (thenT t u) (thenT t' u') := fun p hp => by
  unfold thenT; rw [k p hp, h _ (lt16 (hu p))]
theorem Eq16.dual {t t' : Nat → Int} (h : Eq16 t t') : Eq16 (dualT t) (dualT t') := fun p hp => by
  unfold dualT; rw [h _ (lt16 (notp_ok ⟨by omega, by omega⟩))]
theorem Eq16.join {t t' u u' : Nat → Int} (h : Eq16 t t') (k : Eq16 u u') : Eq16 (joinT t u) (joinT t' u') := fun p hp => by
  unfold joinT; rw [h p hp, k p hp]
theorem Eq16.meet {t t' u u' : Nat → Int} (h : Eq16 t t') (k : Eq16 u u') : Eq16 (meetT t u) (meetT t' u') := fun p hp => by
  unfold meetT; rw [h p hp, k p hp]
theorem orf_congr {b b' : Nat → Bool} {g g' : Nat → Int} {n : Nat} (hb : ∀ k, k < n → b k = b' k) (hg : ∀ k, k < n → g k = g' k) : orf b g n = orf b' g' n := by
  induction n with
  | zero => rfl
  | succ n ih =>
    have := ih (fun k hk => hb k (by omega)) (fun k hk => hg k (by omega))
    simp only [orf, this, hb n (by omega), hg n (by omega)]
theorem andf_congr {b b' : Nat → Bool} {g g' : Nat → Int} {n : Nat} (hb : ∀ k, k < n → b k = b' k) (hg : ∀ k, k < n → g k = g' k) : andf b g n = andf b' g' n := by
  induction n with
  | zero => rfl
  | succ n ih =>
    have := ih (fun k hk => hb k (by omega)) (fun k hk => hg k (by omega))
    simp only [andf, this, hb n (by omega), hg n (by omega)]
theorem mk_congr {b b' : Nat → Bool} {n : Nat} (hb : ∀ k, k < n → b k = b' k) : mk b n = mk b' n := orf_congr hb fun _ _ => rfl
theorem Eq16.least {t t' u u' : Nat → Int} (h : Eq16 t t') (k : Eq16 u u') : Eq16 (leastT t u) (leastT t' u') := fun p _ => by
  unfold leastT; exact orf_congr (fun q hq => by rw [h q hq]) (fun q hq => k q hq)
theorem Eq16.most {t t' u u' : Nat → Int} (h : Eq16 t t') (k : Eq16 u u') : Eq16 (mostT t u) (mostT t' u') := fun p _ => by
  unfold mostT; exact andf_congr (fun q hq => by rw [h q hq]) (fun q hq => k q hq)
theorem Eq16.ref {t t' u u' : Nat → Int} (h : Eq16 t t') (k : Eq16 u u') : refT t u = refT t' u' := refT_congr h k
theorem eq4_txt {f : Nat → Int} (hf : Cond f) : ∀ k, k < 4 → val (txt 4 f) k = f k := fun k hk => val_txt 4 f hf k hk
theorem diaP_congr {r q : Nat → Int} (h : ∀ k, k < 4 → r k = q k) (p : Int) : dia r p = dia q p := mk_congr fun k hk => by rw [h k hk]
theorem boxP_congr {r q : Nat → Int} (h : ∀ k, k < 4 → r k = q k) (p : Int) : box r p = box q p := mk_congr fun k hk => by rw [h k hk]
theorem eq16_angel {r q : Nat → Int} (h : ∀ k, k < 4 → r k = q k) : Eq16 (angelT r) (angelT q) := fun p _ => diaP_congr h p
theorem eq16_demon {r q : Nat → Int} (h : ∀ k, k < 4 → r k = q k) : Eq16 (demonT r) (demonT q) := fun p _ => boxP_congr h p
theorem notp_notp {p : Int} (h : C p) : notp (notp p) = p := C.ext (notp_ok (notp_ok h)) h fun i hi => by rw [has_notp (notp_ok h) hi, has_notp h hi, Bool.not_not]
theorem toNat_cast {p : Int} (h : C p) : ((p.toNat : Nat) : Int) = p := Int.toNat_of_nonneg h.1
/-- a box is no diamond of the others -/
theorem boxP_notp {r : Nat → Int} (hr : Cond r) {p : Int} (hp : C p) : notp (dia r (notp p)) = box r p := by
  refine C.ext (notp_ok (dia_ok _ _)) (box_ok _ _) fun i hi => ?_
  rw [has_notp (dia_ok _ _) hi]
  unfold dia box
  rw [has_mk _ (by decide), has_mk _ (by decide)]
  simp only [hi, decide_true, Bool.true_and]
  have e : bits .and .i64 (r i) (notp p) = bits .andNot .i64 (r i) p := by
    refine C.ext (C.and (hr i) (notp_ok hp)) (C.dif (hr i) hp) fun j hj => ?_
    rw [has_and (C.fit16 (hr i)) (C.fit16 (notp_ok hp)), has_dif (C.fit16 (hr i)) (C.fit16 hp), has_notp hp hj]
  rw [e]
  cases h : (bits .andNot .i64 (r i) p == 0) <;> simp_all [bne]
/-- the demon's transformer is the dual of the angel's -/
theorem dual_angel {r : Nat → Int} (hr : Cond r) : Eq16 (dualT (angelT r)) (demonT r) := fun p hp => by
  have hc : C (p : Int) := ⟨by omega, by omega⟩
  unfold dualT angelT demonT
  rw [toNat_cast (notp_ok hc), boxP_notp hr hc]
end Go.Proofs.Ytihmdfhgkfgmnaa
