/- The drawing of the arguments of tallies, of assignments and of concrete contracts. -/
import Derived.Test.YtaeibhpkcikaaaaGreatDoorGQ
namespace Go.Proofs.YtaeibhpkcikaaaaGreatDoor
set_option linter.unusedVariables false
set_option linter.unusedSimpArgs false
open Go.RowKit Go.Shelf
set_option maxRecDepth 100000
set_option maxHeartbeats 4000000

/-- eight texts -/
def of8 (z : Nat → ByteArray) : Array Value := #[.string (z 0), .string (z 1), .string (z 2), .string (z 3), .string (z 4), .string (z 5), .string (z 6), .string (z 7)]
theorem of8_at (b n p : Nat) (sl : Value) (w : World) (z : Nat → ByteArray) (h : Rd w b sl n p) (hp : p ≤ 800000) (hz : ∀ j, j < 8 → (z j).size ≤ 20) :
    Calls Tryz.prog 36 #[.pointer (some ⟨b, 0, none⟩), .slice (some ⟨w.heap.size, 0, none⟩) 8 8] (w.alloc (.cells (of8 z) 9)) fun e w' =>
      (∃ s : ByteArray, s.size ≤ 20 ∧ e = .returned (.string s)) ∧ Rd w' b sl n (p + 1) ∧ Below b w w' := by
  have hlt := h.lt
  refine (of_at b n p 8 w.heap.size 8 sl z _ (h.old _) (by omega) (by decide) (by decide) (by omega) ?_).mono ?_
  · intro j hj
    rw [cell_of_row _ _ j _ _ _ (heap_alloc_new w _)]
    obtain rfl | rfl | rfl | rfl | rfl | rfl | rfl | rfl : j = 0 ∨ j = 1 ∨ j = 2 ∨ j = 3 ∨ j = 4 ∨ j = 5 ∨ j = 6 ∨ j = 7 := by omega
    all_goals rfl
  · rintro e w' ⟨⟨j, hj, rfl⟩, hP⟩
    exact ⟨⟨_, hz j hj, rfl⟩, hP.rd, ((Below.refl b w).alloc (Nat.le_of_lt hlt) _).trans hP.below⟩
def exC (j : Nat) : ByteArray := if j = 0 then ⟨#[59, 65, 50, 52, 56, 49, 33, 51]⟩ else if j = 1 then ⟨#[38, 65, 50, 52, 56, 49, 115]⟩ else if j = 2 then ⟨#[124, 33, 49, 65, 51, 99, 51, 99]⟩ else if j = 3 then ⟨#[42, 65, 56, 52, 50, 49]⟩ else if j = 4 then ⟨#[43, 59, 33, 55, 65, 49, 50, 52, 56]⟩ else if j = 5 then ⟨#[97]⟩ else if j = 6 then ⟨#[59, 115, 124, 97, 33, 53]⟩ else ⟨#[109]⟩
theorem exC_le (j : Nat) (hj : j < 8) : (exC j).size ≤ 20 := by
  obtain rfl | rfl | rfl | rfl | rfl | rfl | rfl | rfl : j = 0 ∨ j = 1 ∨ j = 2 ∨ j = 3 ∨ j = 4 ∨ j = 5 ∨ j = 6 ∨ j = 7 := by omega
  all_goals decide
theorem exOf_at (b n p : Nat) (sl : Value) (w : World) (h : Rd w b sl n p) (hp : p ≤ 800000) :
    Calls Tryz.prog 36 #[.pointer (some ⟨b, 0, none⟩), .slice (some ⟨w.heap.size, 0, none⟩) 8 8] (w.alloc (.cells #[.string ⟨#[59, 65, 50, 52, 56, 49, 33, 51]⟩, .string ⟨#[38, 65, 50, 52, 56, 49, 115]⟩, .string ⟨#[124, 33, 49, 65, 51, 99, 51, 99]⟩, .string ⟨#[42, 65, 56, 52, 50, 49]⟩, .string ⟨#[43, 59, 33, 55, 65, 49, 50, 52, 56]⟩, .string ⟨#[97]⟩, .string ⟨#[59, 115, 124, 97, 33, 53]⟩, .string ⟨#[109]⟩] 9)) fun e w' =>
      (∃ s : ByteArray, s.size ≤ 20 ∧ e = .returned (.string s)) ∧ Rd w' b sl n (p + 1) ∧ Below b w w' :=
  of8_at b n p sl w exC h hp exC_le
end Go.Proofs.YtaeibhpkcikaaaaGreatDoor
