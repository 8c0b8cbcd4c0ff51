/- Contracts: the reference's residuals and simulations. -/
import Derived.Test.YtaeibhpkcikaaaaGreatDoorGB
import Derived.Test.YtaeibhpkcikaaaaGreatDoorGA
namespace Go.Proofs.YtaeibhpkcikaaaaGreatDoor
set_option linter.unusedVariables false
set_option linter.unusedSimpArgs false
open Go.RowKit Go.Shelf
set_option maxRecDepth 100000
set_option maxHeartbeats 1000000

theorem hid_txt {n : Nat} {f : Nat → Int} (h : Cond f) : Hid (okTxt n (txt n f) = true) := okTxt_txt n f h

/-- what simulating forward comes to -/
def fwdT (r t u : Nat → Int) : Bool := refT (thenT (angelT r) t) (thenT u (angelT r))

theorem okTr_size {t : ByteArray} (h : okTr t = true) : t.size = 16 := okTxt_size (okTr_txt h)

theorem mono_pair {f : Nat → Int} (h : mono f = true) {p q : Nat} (hp : p < 16) (hq : q < 16) (hs : bits .andNot .i64 (p : Int) (q : Int) = 0) : bits .andNot .i64 (f p) (f q) = 0 := by
  have := mono_at h hp hq
  simpa [monoAt, hs] using this
theorem mono_mk {f : Nat → Int} (h : ∀ p q : Nat, p < 16 → q < 16 → bits .andNot .i64 (p : Int) (q : Int) = 0 → bits .andNot .i64 (f p) (f q) = 0) : mono f = true :=
  mono_of fun p hp q hq => by
    unfold monoAt
    cases hs : (bits .andNot .i64 (p : Int) (q : Int) == 0)
    · rfl
    · have := h p q hp hq (by simpa using hs)
      rw [this]; rfl
/-- p lies in q -/
def Sub (p q : Int) : Prop := ∀ i, i < 4 → has p i = true → has q i = true
theorem sub_dif {p q : Int} (hp : C p) (hq : C q) : bits .andNot .i64 p q = 0 ↔ Sub p q := dif_zero hp hq
theorem c_nat {p : Nat} (h : p < 16) : C (p : Int) := ⟨by omega, by omega⟩
theorem mono_sub {f : Nat → Int} (hf : Cond f) : mono f = true ↔ ∀ p q : Nat, p < 16 → q < 16 → Sub p q → Sub (f p) (f q) := by
  constructor
  · intro h p q hp hq hs
    exact (sub_dif (hf p) (hf q)).1 (mono_pair h hp hq ((sub_dif (c_nat hp) (c_nat hq)).2 hs))
  · intro h
    exact mono_mk fun p q hp hq hs => (sub_dif (hf p) (hf q)).2 (h p q hp hq ((sub_dif (c_nat hp) (c_nat hq)).1 hs))
theorem mono_toNat {f : Nat → Int} (hf : Cond f) (h : mono f = true) {p q : Int} (hp : C p) (hq : C q) (hs : Sub p q) : Sub (f p.toNat) (f q.toNat) :=
  (mono_sub hf).1 h _ _ (lt16 hp) (lt16 hq) (by rw [toNat_cast hp, toNat_cast hq]; exact hs)
theorem Sub.refl (p : Int) : Sub p p := fun _ _ h => h
theorem Sub.trans {p q r : Int} (a : Sub p q) (b : Sub q r) : Sub p r := fun i hi h => b i hi (a i hi h)
theorem Sub.antisymm {p q : Int} (hp : C p) (hq : C q) (a : Sub p q) (b : Sub q p) : p = q := C.ext hp hq fun i hi => by
  rw [Bool.eq_iff_iff]; exact ⟨a i hi, b i hi⟩

theorem mono_then {t u : Nat → Int} (ht : Cond t) (hu : Cond u) (a : mono t = true) (b : mono u = true) : mono (thenT t u) = true :=
  (mono_sub (thenT_ok ht u)).2 fun p q hp hq hs => mono_toNat ht a (hu p) (hu q) ((mono_sub hu).1 b p q hp hq hs)
theorem has_dia {r : Nat → Int} (hr : Cond r) {p : Int} (hp : C p) {i : Nat} (hi : i < 4) : has (dia r p) i = true ↔ ∃ j, j < 4 ∧ has (r i) j = true ∧ has p j = true := by
  unfold dia
  rw [has_mk _ (by decide)]
  simp only [hi, decide_true, Bool.true_and, bne_iff_ne]
  constructor
  · intro h
    refine Classical.byContradiction fun hn => h ?_
    refine C.ext (C.and (hr i) hp) C.zero fun j hj => ?_
    rw [has_and (C.fit16 (hr i)) hp.fit16, has_zero]
    cases h1 : has (r i) j
    · rfl
    · cases h2 : has p j
      · rfl
      · exact (hn ⟨j, hj, h1, h2⟩).elim
  · rintro ⟨j, hj, h1, h2⟩ h
    have := congrArg (fun x => has x j) h
    simp only [has_and (C.fit16 (hr i)) hp.fit16, has_zero, h1, h2] at this
    cases this
theorem has_box {r : Nat → Int} (hr : Cond r) {p : Int} (hp : C p) {i : Nat} (hi : i < 4) : has (box r p) i = true ↔ Sub (r i) p := by
  unfold box
  rw [has_mk _ (by decide)]
  simp only [hi, decide_true, Bool.true_and, beq_iff_eq]
  exact sub_dif (hr i) hp
theorem mono_angel {r : Nat → Int} (hr : Cond r) : mono (angelT r) = true :=
  (mono_sub (angelT_ok r)).2 fun p q hp hq hs i hi h => by
    obtain ⟨j, hj, h1, h2⟩ := (has_dia hr (c_nat hp) hi).1 h
    exact (has_dia hr (c_nat hq) hi).2 ⟨j, hj, h1, hs j hj h2⟩
theorem mono_demon {r : Nat → Int} (hr : Cond r) : mono (demonT r) = true :=
  (mono_sub (demonT_ok r)).2 fun p q hp hq hs i hi h => (has_box hr (c_nat hq) hi).2 (((has_box hr (c_nat hp) hi).1 h).trans hs)
theorem sub_notp {p q : Int} (hp : C p) (hq : C q) (h : Sub p q) : Sub (notp q) (notp p) := fun i hi hn => by
  rw [has_notp hq hi] at hn; rw [has_notp hp hi]
  cases hh : has p i
  · rfl
  · rw [h i hi hh] at hn; cases hn
theorem mono_dual {t : Nat → Int} (ht : Cond t) (a : mono t = true) : mono (dualT t) = true :=
  (mono_sub (dualT_ok ht)).2 fun p q hp hq hs =>
    sub_notp (ht _) (ht _) (mono_toNat ht a (notp_ok (c_nat hq)) (notp_ok (c_nat hp)) (sub_notp (c_nat hp) (c_nat hq) hs))
theorem okTr_of {f : Nat → Int} (hf : Cond f) (h : mono f = true) : okTr (txt 16 f) = true := by
  simp only [okTr, okTxt_txt 16 f hf, Bool.true_and]
  rw [mono_congr (g := f) (eq16_txt hf)]; exact h
theorem mono_val_of {s : ByteArray} (h : okTr s = true) : mono (val s) = true := okTr_mono h

end Go.Proofs.YtaeibhpkcikaaaaGreatDoor
