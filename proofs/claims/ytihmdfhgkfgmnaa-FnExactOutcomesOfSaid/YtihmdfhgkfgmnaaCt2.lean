/- The transformers of contracts. No program in sight. -/
import Derived.Test.YtihmdfhgkfgmnaaCt
namespace Go.Proofs.Ytihmdfhgkfgmnaa
set_option linter.unusedVariables false
set_option linter.unusedSimpArgs false
open Go.RowKit

/-- assuming p -/
def assuT (p : Int) (k : Nat) : Int := if k < 16 then bits .or .i64 (k : Int) (notp p) else 0
theorem assuT_at {p : Int} {k : Nat} (h : k < 16) : assuT p k = bits .or .i64 (k : Int) (notp p) := by simp [assuT, h]
theorem assuT_ok {p : Int} (hp : C p) : Cond (assuT p) := fun k => by
  unfold assuT; split
  · exact C.or (c_nat (by assumption)) (notp_ok hp)
  · exact C.zero
theorem Mon.assu {p : Int} (hp : C p) : Mon (assuT p) := Mon.of (assuT_ok hp) fun a b ha hb s => by
  rw [assuT_at ha, assuT_at hb]; exact or_mono (c_nat ha) (notp_ok hp) (c_nat hb) (notp_ok hp) s (Sub.refl _)
/-- t where p holds, u elsewhere -/
def iteT (p : Int) (t u : Nat → Int) (k : Nat) : Int := bits .or .i64 (bits .and .i64 p (t k)) (bits .andNot .i64 (u k) p)
theorem sub_difl {a b p : Int} (ha : C a) (hb : C b) (hp : C p) (s : Sub a b) : Sub (bits .andNot .i64 a p) (bits .andNot .i64 b p) := fun i hi h => by
  rw [has_dif ha.fit16 hp.fit16, Bool.and_eq_true] at h
  rw [has_dif hb.fit16 hp.fit16, s i hi h.1, h.2]; rfl
theorem iteT_ok {p : Int} {t u : Nat → Int} (hp : C p) (ht : Cond t) (hu : Cond u) : Cond (iteT p t u) := fun k => C.or (C.and hp (ht k)) (C.dif (hu k) hp)
theorem Mon.ite {p : Int} {t u : Nat → Int} (hp : C p) (ht : Mon t) (hu : Mon u) : Mon (iteT p t u) := Mon.of (iteT_ok hp ht.ok hu.ok) fun a b ha hb s =>
  or_mono (C.and hp (ht.ok a)) (C.dif (hu.ok a) hp) (C.and hp (ht.ok b)) (C.dif (hu.ok b) hp) (and_mono hp (ht.ok a) hp (ht.ok b) (Sub.refl _) (ht.sub ha hb s)) (sub_difl (hu.ok a) (hu.ok b) hp (hu.sub ha hb s))
/-- what must hold ahead of a turn of a loop -/
def whlF (p : Int) (t : Nat → Int) (q : Int) (y : Int) : Int := bits .or .i64 (bits .and .i64 p (t y.toNat)) (bits .andNot .i64 q p)
theorem MonF.whl {p : Int} (hp : C p) {t : Nat → Int} (ht : Mon t) {q : Int} (hq : C q) : MonF (whlF p t q) :=
  ⟨fun _ _ => C.or (C.and hp (ht.ok _)) (C.dif hq hp), fun _ _ hx hy s => or_mono (C.and hp (ht.ok _)) (C.dif hq hp) (C.and hp (ht.ok _)) (C.dif hq hp) (and_mono hp (ht.ok _) hp (ht.ok _) (Sub.refl _) (ht.at hx hy s)) (Sub.refl _)⟩
def whlT (p : Int) (t : Nat → Int) (q : Nat) : Int := if q < 16 then lfp (whlF p t q) else 0
theorem whlT_at {p : Int} {t : Nat → Int} {q : Nat} (h : q < 16) : whlT p t q = lfp (whlF p t q) := by simp [whlT, h]
theorem whlT_ok {p : Int} (hp : C p) {t : Nat → Int} (ht : Mon t) : Cond (whlT p t) := fun k => by
  unfold whlT; split
  · exact lfp_ok (MonF.whl hp ht (c_nat (by assumption)))
  · exact C.zero
theorem Mon.whl {p : Int} (hp : C p) {t : Nat → Int} (ht : Mon t) : Mon (whlT p t) := Mon.of (whlT_ok hp ht) fun a b ha hb s => by
  rw [whlT_at ha, whlT_at hb]
  have hB := MonF.whl hp ht (c_nat hb)
  refine lfp_least (MonF.whl hp ht (c_nat ha)) (lfp_ok hB) ?_
  have hc := C.and hp (ht.ok (lfp (whlF p t b)).toNat)
  have := or_mono hc (C.dif (c_nat ha) hp) hc (C.dif (c_nat hb) hp) (Sub.refl _) (sub_difl (c_nat ha) (c_nat hb) hp s)
  exact this.trans (by have := lfp_fix hB; unfold whlF at this ⊢; rw [this]; exact Sub.refl _)
/-- digits as a table -/
def dsF (d : List Int) (k : Nat) : Int := d.getD k 0
theorem dsF_c {d : List Int} (h : ∀ k ∈ d, C k) : Cond (dsF d) := fun k => by
  unfold dsF
  rw [List.getD_eq_getElem?_getD]
  cases hk : d[k]? with
  | none => exact C.zero
  | some v => exact h v (List.mem_of_getElem? hk)
/-- the transformer of a contract -/
def Ct.sem : Ct → Nat → Int
  | n0 o d => if o = 115 then skipT else if o = 97 then assT 0 else if o = 109 then assuT 0 else if o = 33 then assT (dsF d 0) else if o = 63 then assuT (dsF d 0) else if o = 65 then angelT (dsF d) else demonT (dsF d)
  | n1 o d x => if o = 119 then whlT (dsF d 0) x.sem else if o = 42 then omegaT x.sem else starT x.sem
  | n2 o d x y => if o = 59 then thenT x.sem y.sem else if o = 38 then meetT x.sem y.sem else if o = 124 then joinT x.sem y.sem else iteT (dsF d 0) x.sem y.sem
theorem Ct.mon : ∀ t : Ct, t.WF → Mon t.sem
  | n0 o d, h => by
    have hd := dsF_c h.2
    simp only [sem]
    repeat' split
    · exact Mon.skip
    · exact Mon.ass C.zero
    · exact Mon.assu C.zero
    · exact Mon.ass (hd 0)
    · exact Mon.assu (hd 0)
    · exact Mon.angel hd
    · exact Mon.demon hd
  | n1 o d x, h => by
    have hd := dsF_c h.1.2
    have hx := Ct.mon x h.2
    simp only [sem]
    repeat' split
    · exact Mon.whl (hd 0) hx
    · exact hx.omega
    · exact hx.star
  | n2 o d x y, h => by
    have hd := dsF_c h.1.2
    have hx := Ct.mon x h.2.1
    have hy := Ct.mon y h.2.2
    simp only [sem]
    repeat' split
    · exact hx.then hy
    · exact hx.meet hy
    · exact hx.join hy
    · exact Mon.ite (hd 0) hx hy
end Go.Proofs.Ytihmdfhgkfgmnaa
