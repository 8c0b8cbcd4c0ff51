/- Plain functions on tables of sixteen conditions. No program in sight. -/
import Derived.Test.YtihmdfhgkfgmnaaBits
namespace Go.Proofs.Ytihmdfhgkfgmnaa
set_option linter.unusedVariables false
set_option linter.unusedSimpArgs false
open Go.RowKit

def monoAt (f : Nat → Int) (p q : Nat) : Bool := !((bits .andNot .i64 (p : Int) (q : Int) == 0) && (bits .andNot .i64 (f p) (f q) != 0))
/-- the table keeps what follows -/
def mono (f : Nat → Int) : Bool := (List.range 16).all fun p => (List.range 16).all fun q => monoAt f p q
theorem mono_at {f : Nat → Int} (h : mono f = true) {p q : Nat} (hp : p < 16) (hq : q < 16) : monoAt f p q = true := by
  simp only [mono, List.all_eq_true, List.mem_range] at h; exact h p hp q hq
theorem mono_of {f : Nat → Int} (h : ∀ p, p < 16 → ∀ q, q < 16 → monoAt f p q = true) : mono f = true := by
  simp only [mono, List.all_eq_true, List.mem_range]; exact h
theorem mono_congr {f g : Nat → Int} (h : ∀ k, k < 16 → f k = g k) : mono f = mono g := by
  rw [Bool.eq_iff_iff]
  constructor
  · intro a; exact mono_of fun p hp q hq => by have := mono_at a hp hq; simpa only [monoAt, h p hp, h q hq] using this
  · intro a; exact mono_of fun p hp q hq => by have := mono_at a hp hq; simpa only [monoAt, h p hp, h q hq] using this
/-- a text of a transformer -/
def okTr (s : ByteArray) : Bool := okTxt 16 s && mono (val s)
theorem okTr_txt {s : ByteArray} (h : okTr s = true) : okTxt 16 s = true := by simp only [okTr, Bool.and_eq_true] at h; exact h.1
theorem okTr_mono {s : ByteArray} (h : okTr s = true) : mono (val s) = true := by simp only [okTr, Bool.and_eq_true] at h; exact h.2
/-- what the program reads of a text of a transformer: nothing but noughts where it is none -/
def tabT (s : ByteArray) : Nat → Int := if okTr s then val s else fun _ => 0
theorem tabT_ok (s : ByteArray) : Cond (tabT s) := by
  unfold tabT; split
  · exact val_ok s
  · intro k; exact ⟨Int.le_refl 0, by show (0 : Int) ≤ 15; decide⟩
theorem tabT_val {s : ByteArray} (h : okTr s = true) : tabT s = val s := by simp [tabT, h]
theorem tabT_none {s : ByteArray} (h : okTr s = false) : tabT s = fun _ => 0 := by simp [tabT, h]

def thenT (t u : Nat → Int) : Nat → Int := fun k => t (u k).toNat
def meetT (t u : Nat → Int) : Nat → Int := fun k => bits .and .i64 (t k) (u k)
def joinT (t u : Nat → Int) : Nat → Int := fun k => bits .or .i64 (t k) (u k)
def dualT (t : Nat → Int) : Nat → Int := fun k => notp (t (notp (k : Int)).toNat)
def assertT (p : Int) : Nat → Int := fun k => bits .and .i64 p (k : Int)
def angelT (r : Nat → Int) : Nat → Int := fun k => dia r (k : Int)
def demonT (r : Nat → Int) : Nat → Int := fun k => box r (k : Int)
def refT (t u : Nat → Int) : Bool := (List.range 16).all fun k => bits .andNot .i64 (t k) (u k) == 0
theorem refT_at {t u : Nat → Int} (h : refT t u = true) {k : Nat} (hk : k < 16) : bits .andNot .i64 (t k) (u k) = 0 := by
  simp only [refT, List.all_eq_true, List.mem_range, beq_iff_eq] at h; exact h k hk
theorem refT_of {t u : Nat → Int} (h : ∀ k, k < 16 → bits .andNot .i64 (t k) (u k) = 0) : refT t u = true := by
  simp only [refT, List.all_eq_true, List.mem_range, beq_iff_eq]; exact h
theorem refT_congr {t t' u u' : Nat → Int} (h : ∀ k, k < 16 → t k = t' k) (h' : ∀ k, k < 16 → u k = u' k) : refT t u = refT t' u' := by
  rw [Bool.eq_iff_iff]
  exact ⟨fun a => refT_of fun k hk => by rw [← h k hk, ← h' k hk]; exact refT_at a hk, fun a => refT_of fun k hk => by rw [h k hk, h' k hk]; exact refT_at a hk⟩

theorem meetT_ok {t u : Nat → Int} (ht : Cond t) (hu : Cond u) : Cond (meetT t u) := fun k => C.and (ht k) (hu k)
theorem joinT_ok {t u : Nat → Int} (ht : Cond t) (hu : Cond u) : Cond (joinT t u) := fun k => C.or (ht k) (hu k)
theorem thenT_ok {t : Nat → Int} (ht : Cond t) (u : Nat → Int) : Cond (thenT t u) := fun _ => ht _
theorem dualT_ok {t : Nat → Int} (ht : Cond t) : Cond (dualT t) := fun _ => notp_ok (ht _)
theorem angelT_ok (r : Nat → Int) : Cond (angelT r) := fun _ => dia_ok _ _
theorem demonT_ok (r : Nat → Int) : Cond (demonT r) := fun _ => box_ok _ _

/-- p without q is nothing: q holds all of p -/
theorem dif_zero {p q : Int} (hp : C p) (hq : C q) : bits .andNot .i64 p q = 0 ↔ ∀ i, i < 4 → has p i = true → has q i = true := by
  constructor
  · intro h i hi hpi
    have := congrArg (fun x => has x i) h
    simp only [has_dif hp.fit16 hq.fit16, has_zero, hpi, Bool.true_and] at this
    simpa using this
  · intro h
    refine C.ext (C.dif hp hq) C.zero fun i hi => ?_
    rw [has_dif hp.fit16 hq.fit16, has_zero]
    cases hpi : has p i
    · rfl
    · simp [h i hi hpi]
theorem or_eq_iff {p q : Int} (hp : C p) (hq : C q) : bits .or .i64 p q = q ↔ bits .andNot .i64 p q = 0 := by
  rw [dif_zero hp hq]
  constructor
  · intro h i hi hpi
    have := congrArg (fun x => has x i) h
    simp only [has_or hp.fit16 hq.fit16, hpi, Bool.true_or] at this
    exact this.symm
  · intro h
    refine C.ext (C.or hp hq) hq fun i hi => ?_
    rw [has_or hp.fit16 hq.fit16]
    cases hpi : has p i
    · simp
    · simp [h i hi hpi]

theorem dg_hx_all : ∀ n : Fin 256, 0 ≤ hx (UInt8.ofNat n.val) → dg (hx (UInt8.ofNat n.val)) = UInt8.ofNat n.val := by decide +kernel
theorem dg_hx {c : UInt8} (h : 0 ≤ hx c) : dg (hx c) = c := by
  have e : UInt8.ofNat c.toNat = c := by simp
  have := dg_hx_all ⟨c.toNat, c.toNat_lt⟩
  simp only [e] at this
  exact this h
/-- two texts of digits are the same if their digits are -/
theorem txt_eq {n : Nat} {s t : ByteArray} (hs : okTxt n s = true) (ht : okTxt n t = true) (h : ∀ k, k < n → val s k = val t k) : s = t := by
  have e : ∀ k, k < n → bt s k = bt t k := fun k hk => by
    have h1 := h k hk
    rw [okTxt_val hs k hk, okTxt_val ht k hk] at h1
    rw [← dg_hx (okTxt_hx hs k hk), ← dg_hx (okTxt_hx ht k hk), h1]
  have l1 : s.data.toList.length = n := by have := okTxt_size hs; rw [← this]; rfl
  have l2 : t.data.toList.length = n := by have := okTxt_size ht; rw [← this]; rfl
  apply ByteArray.ext
  apply Array.ext'
  apply List.ext_getElem (by omega)
  intro k hk1 hk2
  have := e k (by omega)
  simp only [bt, List.getD_eq_getElem?_getD, List.getElem?_eq_getElem hk1, List.getElem?_eq_getElem hk2, Option.getD_some] at this
  exact this
theorem str_beq (a b : ByteArray) : (a.toList == b.toList) = decide (a = b) := by
  rw [Bool.eq_iff_iff, decide_eq_true_eq, beq_iff_eq, ByteArray.toList_eq, ByteArray.toList_eq]
  exact ⟨fun h => ByteArray.ext (Array.ext' h), fun h => by rw [h]⟩
theorem refT_join {t u : ByteArray} (hu : okTxt 16 u = true) : decide (txt 16 (joinT (val t) (val u)) = u) = refT (val t) (val u) := by
  rw [Bool.eq_iff_iff, decide_eq_true_eq]
  constructor
  · intro h
    refine refT_of fun k hk => ?_
    rw [← or_eq_iff (val_ok t k) (val_ok u k)]
    have := val_txt 16 _ (joinT_ok (val_ok t) (val_ok u)) k hk
    rw [h] at this
    exact this.symm
  · intro h
    refine txt_eq (okTxt_txt 16 _ (joinT_ok (val_ok t) (val_ok u))) hu fun k hk => ?_
    rw [val_txt 16 _ (joinT_ok (val_ok t) (val_ok u)) k hk]
    exact (or_eq_iff (val_ok t k) (val_ok u k)).2 (refT_at h hk)
end Go.Proofs.Ytihmdfhgkfgmnaa
