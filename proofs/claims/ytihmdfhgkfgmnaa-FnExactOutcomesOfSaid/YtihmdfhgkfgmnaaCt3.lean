/- The parts of contracts. No program in sight. -/
import Derived.Test.YtihmdfhgkfgmnaaPl
namespace Go.Proofs.Ytihmdfhgkfgmnaa
set_option linter.unusedVariables false
set_option linter.unusedSimpArgs false
open Go.RowKit

def Ct.parts : Ct → List Ct
  | n0 _ _ => []
  | n1 _ _ x => [x]
  | n2 _ _ x y => [x, y]
def sumLen : List Ct → Nat
  | [] => 0
  | x :: l => x.len + sumLen l
theorem sumLen_app (l m : List Ct) : sumLen (l ++ m) = sumLen l + sumLen m := by
  induction l with
  | nil => simp [sumLen]
  | cons x l ih => simp [sumLen, ih]; omega
theorem Ct.len_parts (t : Ct) : t.len = 1 + t.ds.length + sumLen t.parts := by
  cases t
  · rw [len0]; rfl
  · rw [len1]; rfl
  · rw [len2]; rfl
theorem Ct.parts_wf {t : Ct} (h : t.WF) : ∀ x ∈ t.parts, x.WF := by
  cases t <;> simp only [parts, List.mem_cons, List.not_mem_nil, or_false]
  · intro x hx; exact hx.elim
  · rintro x rfl; exact h.2
  · rintro x (rfl | rfl)
    · exact h.2.1
    · exact h.2.2
theorem Ct.parts_le (t : Ct) : t.parts.length ≤ 2 := by cases t <;> simp [parts]
theorem Ct.parts_n (t : Ct) : t.parts.length = t.nparts := by cases t <;> rfl
theorem LiesAt.split {c : ByteArray} {a : Nat} {t x : Ct} {us vs : List Ct} (h : LiesAt c a t) (e : t.parts = us ++ x :: vs) : LiesAt c (a + 1 + t.ds.length + sumLen us) x := by
  cases t with
  | n0 o d => simp [Ct.parts] at e
  | n1 o d y =>
    cases us with
    | nil =>
      simp [Ct.parts] at e
      obtain ⟨rfl, -⟩ := e
      exact h.part
    | cons u us => simp [Ct.parts] at e
  | n2 o d y z =>
    cases us with
    | nil =>
      simp [Ct.parts] at e
      obtain ⟨rfl, -⟩ := e
      exact h.part1
    | cons u us =>
      cases us with
      | nil =>
        simp [Ct.parts] at e
        obtain ⟨rfl, rfl, -⟩ := e
        exact h.part2
      | cons u' us => simp [Ct.parts] at e
theorem Ct.len_part {t x : Ct} (h : x ∈ t.parts) : x.len < t.len := by
  rw [t.len_parts]
  have : x.len ≤ sumLen t.parts := by
    generalize t.parts = l at h
    induction l with
    | nil => simp at h
    | cons y l ih =>
      simp only [List.mem_cons] at h
      rcases h with rfl | h
      · simp [sumLen]
      · have := ih h; simp [sumLen]; omega
  omega
/-- a turn of a loop -/
def turnV (o : UInt8) (p body q : Int) : Int := if o = 119 then bits .or .i64 (bits .and .i64 p body) (bits .andNot .i64 q p) else if o = 42 then bits .and .i64 body q else bits .or .i64 body q
theorem turn_c {o : UInt8} {p b q : Int} (hp : C p) (hb : C b) (hq : C q) : C (turnV o p b q) := by
  unfold turnV
  repeat' split
  · exact C.or (C.and hp hb) (C.dif hq hp)
  · exact C.and hb hq
  · exact C.or hb hq
theorem turn_mon {o : UInt8} {p q : Int} {t : Nat → Int} (hp : C p) (ht : Mon t) (hq : C q) : MonF fun y => turnV o p (t y.toNat) q := by
  unfold turnV
  repeat' split
  · exact MonF.whl hp ht hq
  · exact MonF.omega ht hq
  · exact MonF.star ht hq
theorem sem_loop (o : UInt8) (d : List Int) (x : Ct) (q : Nat) (hq : q < 16) : (Ct.n1 o d x).sem q = lfp fun y => turnV o (dsF d 0) (x.sem y.toNat) q := by
  simp only [Ct.sem, turnV]
  repeat' split
  · rw [whlT_at hq]; rfl
  · rw [omegaT_at hq]; rfl
  · rw [starT_at hq]; rfl
end Go.Proofs.Ytihmdfhgkfgmnaa
