/- Contracts made concrete by a view, and how many statements of a kind they have. No program in sight. -/
import Derived.Test.YtihmdfhgkfgmnaaCt3
import Derived.Test.YtihmdfhgkfgmnaaSp2b
namespace Go.Proofs.Ytihmdfhgkfgmnaa
set_option linter.unusedVariables false
set_option linter.unusedSimpArgs false
open Go.RowKit

/-- statements that can be made concrete -/
def concOp (o : UInt8) : Bool := o == 115 || o == 97 || o == 109 || o == 33 || o == 65 || o == 59 || o == 38 || o == 124 || o == 42 || o == 43
/-- does a relation stay within the known states? -/
def staysR (kn : Int) (q : Nat → Int) : Bool := bits .andNot .i64 (img q kn) kn == 0
def fitsD (r : Nat → Int) (o : UInt8) (d : List Int) : Bool := !(o == 65) || staysR (img r 15) (dsF d)
def concR (r : Nat → Int) (d : List Int) : Nat → Int := comp (comp r (dsF d)) (turn r)
def concD (r : Nat → Int) (o : UInt8) (d : List Int) : List Int := if o = 33 then [dia r (dsF d 0)] else if o = 65 then (List.range 4).map (concR r d) else d
namespace Ct
def conc (r : Nat → Int) : Ct → Ct
  | n0 o d => n0 o (concD r o d)
  | n1 o d x => n1 o (concD r o d) (x.conc r)
  | n2 o d x y => n2 o (concD r o d) (x.conc r) (y.conc r)
def fits (r : Nat → Int) : Ct → Bool
  | n0 o d => fitsD r o d
  | n1 o d x => fitsD r o d && x.fits r
  | n2 o d x y => fitsD r o d && (x.fits r && y.fits r)
def knows (s : UInt8 → Bool) : Ct → Bool
  | n0 o _ => s o
  | n1 o _ x => s o && x.knows s
  | n2 o _ x y => s o && (x.knows s && y.knows s)
def cnt (s : UInt8 → Bool) : Ct → Nat
  | n0 o _ => if s o then 1 else 0
  | n1 o _ x => (if s o then 1 else 0) + x.cnt s
  | n2 o _ x y => (if s o then 1 else 0) + (x.cnt s + y.cnt s)
/-- how many statements -/
def num : Ct → Nat
  | n0 _ _ => 1
  | n1 _ _ x => 1 + x.num
  | n2 _ _ x y => 1 + (x.num + y.num)
/-- the letter and digits of a statement -/
def headB (t : Ct) : List UInt8 := t.op :: t.ds.map dg
end Ct
def catB : List Ct → List UInt8
  | [] => []
  | x :: l => x.bytes ++ catB l
theorem catB_app (l m : List Ct) : catB (l ++ m) = catB l ++ catB m := by
  induction l with
  | nil => simp [catB]
  | cons x l ih => simp [catB, ih]
theorem Ct.bytes_parts (t : Ct) : t.bytes = t.headB ++ catB t.parts := by
  cases t <;> simp [bytes, headB, op, ds, parts, catB]
theorem Ct.conc_op (r : Nat → Int) (t : Ct) : (t.conc r).op = t.op := by cases t <;> rfl
theorem Ct.conc_ds (r : Nat → Int) (t : Ct) : (t.conc r).ds = concD r t.op t.ds := by cases t <;> rfl
theorem Ct.conc_parts (r : Nat → Int) (t : Ct) : (t.conc r).parts = t.parts.map (·.conc r) := by cases t <;> rfl
def sumCnt (s : UInt8 → Bool) : List Ct → Nat
  | [] => 0
  | x :: l => x.cnt s + sumCnt s l
theorem sumCnt_app (s : UInt8 → Bool) (l m : List Ct) : sumCnt s (l ++ m) = sumCnt s l + sumCnt s m := by
  induction l with
  | nil => simp [sumCnt]
  | cons x l ih => simp [sumCnt, ih]; omega
theorem Ct.cnt_parts (s : UInt8 → Bool) (t : Ct) : t.cnt s = (if s t.op then 1 else 0) + sumCnt s t.parts := by cases t <;> rfl
theorem Ct.cnt_le (s : UInt8 → Bool) : ∀ t : Ct, t.cnt s ≤ t.num
  | .n0 o d => by simp only [cnt, num]; split <;> omega
  | .n1 o d x => by have := cnt_le s x; simp only [cnt, num]; split <;> omega
  | .n2 o d x y => by have := cnt_le s x; have := cnt_le s y; simp only [cnt, num]; split <;> omega
theorem Ct.num_le : ∀ t : Ct, t.num ≤ t.len
  | .n0 o d => by have := (Ct.n0 o d).len_pos; simp only [num]; omega
  | .n1 o d x => by have := num_le x; rw [len1]; simp only [num]; omega
  | .n2 o d x y => by have := num_le x; have := num_le y; rw [len2]; simp only [num]; omega
theorem Ct.cnt_all {s : UInt8 → Bool} : ∀ t : Ct, t.cnt s = t.num ↔ t.knows s = true
  | .n0 o d => by simp only [cnt, num, knows]; cases s o <;> simp
  | .n1 o d x => by
    have h1 := cnt_le s x
    simp only [cnt, num, knows, Bool.and_eq_true]
    rw [← cnt_all x]
    cases s o
    · simp; omega
    · simp
  | .n2 o d x y => by
    have h1 := cnt_le s x
    have h2 := cnt_le s y
    simp only [cnt, num, knows, Bool.and_eq_true]
    rw [← cnt_all x, ← cnt_all y]
    cases s o
    · simp; omega
    · simp; omega
theorem Ct.knows_parts (s : UInt8 → Bool) (t : Ct) : t.knows s = (s t.op && t.parts.all (·.knows s)) := by cases t <;> simp [knows, op, parts]
theorem Ct.fits_parts (r : Nat → Int) (t : Ct) : t.fits r = (fitsD r t.op t.ds && t.parts.all (·.fits r)) := by cases t <;> simp [fits, op, ds, parts]
theorem concR_ok (r : Nat → Int) (d : List Int) : Cond (concR r d) := fun _ => img_ok (turn_ok r) _
theorem concD_len {r : Nat → Int} {o : UInt8} {d : List Int} {k : Nat} (h : shp o = some (k, d.length)) : (concD r o d).length = d.length := by
  unfold concD
  split
  · subst_vars; simp [shp] at h; simp [h.2.symm]
  · split
    · subst_vars; simp [shp] at h; simp [h.2.symm]
    · rfl
theorem concD_c {r : Nat → Int} {o : UInt8} {d : List Int} (h : ∀ k ∈ d, C k) : ∀ k ∈ concD r o d, C k := by
  unfold concD
  split
  · intro k hk; simp at hk; subst hk; exact dia_ok _ _
  · split
    · intro k hk
      simp only [List.mem_map, List.mem_range] at hk
      obtain ⟨j, hj, rfl⟩ := hk
      exact concR_ok r d j
    · exact h
theorem Ct.conc_wf (r : Nat → Int) : ∀ t : Ct, t.WF → (t.conc r).WF
  | .n0 o d, h => ⟨by rw [concD_len h.1]; exact h.1, concD_c h.2⟩
  | .n1 o d x, h => ⟨⟨by rw [concD_len h.1.1]; exact h.1.1, concD_c h.1.2⟩, conc_wf r x h.2⟩
  | .n2 o d x y, h => ⟨⟨by rw [concD_len h.1.1]; exact h.1.1, concD_c h.1.2⟩, conc_wf r x h.2.1, conc_wf r y h.2.2⟩
theorem Ct.conc_len (r : Nat → Int) : ∀ t : Ct, t.WF → (t.conc r).len = t.len
  | .n0 o d, h => by simp only [conc]; rw [len0, len0, concD_len h.1]
  | .n1 o d x, h => by simp only [conc]; rw [len1, len1, concD_len h.1.1, conc_len r x h.2]
  | .n2 o d x y, h => by simp only [conc]; rw [len2, len2, concD_len h.1.1, conc_len r x h.2.1, conc_len r y h.2.2]
/-- the known states -/
theorem img_dia {r : Nat → Int} (hr : Cond r) : dia (turn r) 15 = img r 15 := by
  refine C.ext (dia_ok _ _) (img_ok hr _) fun i hi => ?_
  unfold dia img
  rw [has_mk _ (by decide), has_orf (m := 4) (by decide) _ _ 4 (fun k _ => C.fit (hr k))]
  have h4 : decide (i < 4) = true := by simpa using hi
  rw [h4, Bool.true_and]
  have e : ∀ s, s < 4 → has 15 s = true := fun s hs => has_15 hs
  have hb : (bits .and .i64 (turn r i) 15 != 0) = (List.range 4).any fun s => has (r s) i := by
    rw [Bool.eq_iff_iff]
    simp only [bne_iff_ne, ne_eq, List.any_eq_true, List.mem_range]
    constructor
    · intro hne
      refine Classical.byContradiction fun hno => hne ?_
      refine C.ext (C.and (turn_ok r i) C.all) C.zero fun s hs => ?_
      rw [has_and (C.fit16 (turn_ok r i)) C.all.fit16, has_zero, has_15 hs, Bool.and_true]
      unfold turn
      rw [has_mk _ (by decide)]
      have : has (r s) i = false := by
        rw [Bool.eq_false_iff]; intro hh; exact hno ⟨s, hs, hh⟩
      rw [this, Bool.and_false]
    · rintro ⟨s, hs, hh⟩ h0
      have h1 := congrArg (fun p => has p s) h0
      simp only [has_zero] at h1
      rw [has_and (C.fit16 (turn_ok r i)) C.all.fit16, has_15 hs, Bool.and_true] at h1
      unfold turn at h1
      rw [has_mk _ (by decide), hh] at h1
      simp [hs] at h1
  rw [hb]
  rw [Bool.eq_iff_iff]
  simp only [List.any_eq_true, List.mem_range, Bool.and_eq_true]
  constructor
  · rintro ⟨s, hs, h⟩; exact ⟨s, hs, by simp [has_15 hs, h]⟩
  · rintro ⟨s, hs, h⟩; exact ⟨s, hs, by simpa [has_15 hs] using h⟩
def stayTo (im : Int) (q : Nat → Int) (k : Nat) : Bool := (List.range k).all fun s => (!has im s) || (bits .andNot .i64 (q s) im == 0)
theorem stayTo_succ (im : Int) (q : Nat → Int) (k : Nat) : stayTo im q (k + 1) = (stayTo im q k && ((!has im k) || (bits .andNot .i64 (q k) im == 0))) := by simp [stayTo, List.range_succ]
theorem stays_to {im : Int} (hi : C im) {q : Nat → Int} (hq : Cond q) : stayTo im q 4 = staysR im q := by
  unfold stayTo staysR
  rw [Bool.eq_iff_iff]
  simp only [List.all_eq_true, List.mem_range, Bool.or_eq_true, Bool.not_eq_true', beq_iff_eq]
  rw [dif_zero (img_ok hq im) hi]
  constructor
  · intro h i hi4 hh
    unfold img at hh
    rw [has_orf (m := 4) (by decide) _ _ 4 (fun k _ => C.fit (hq k))] at hh
    simp only [List.any_eq_true, List.mem_range, Bool.and_eq_true] at hh
    obtain ⟨s, hs, h1, h2⟩ := hh
    rcases h s hs with h3 | h3
    · rw [h3] at h1; cases h1
    · exact (dif_zero (hq s) hi).1 h3 i hi4 h2
  · intro h s hs
    cases hh : has im s
    · exact .inl rfl
    · refine .inr ((dif_zero (hq s) hi).2 fun i hi4 h2 => h i hi4 ?_)
      unfold img
      rw [has_orf (m := 4) (by decide) _ _ 4 (fun k _ => C.fit (hq k))]
      simp only [List.any_eq_true, List.mem_range, Bool.and_eq_true]
      exact ⟨s, hs, hh, h2⟩
end Go.Proofs.Ytihmdfhgkfgmnaa
