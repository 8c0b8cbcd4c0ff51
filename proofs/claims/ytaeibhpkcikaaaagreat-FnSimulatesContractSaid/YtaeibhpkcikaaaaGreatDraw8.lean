/- The drawing of the arguments of tallies, of assignments and of concrete contracts. -/
import Derived.Test.YtaeibhpkcikaaaaGreatGQ
namespace Go.Proofs.YtaeibhpkcikaaaaGreat
set_option linter.unusedVariables false
set_option linter.unusedSimpArgs false
open Go.RowKit Go.Shelf
set_option maxRecDepth 100000
set_option maxHeartbeats 4000000

/-- eight texts -/
def of8 (z : Nat → ByteArray) : Array Value := #[.string (z 0), .string (z 1), .string (z 2), .string (z 3), .string (z 4), .string (z 5), .string (z 6), .string (z 7)]
theorem of8_at (b n p : Nat) (sl : Value) (w : World) (z : Nat → ByteArray) (h : Rd w b sl n p) (hp : p ≤ 800000) (hz : ∀ j, j < 8 → (z j).size ≤ 20) :
    Calls Tryz.prog 33 #[.pointer (some ⟨b, 0, none⟩), .slice (some ⟨w.heap.size, 0, none⟩) 8 8] (w.alloc (.cells (of8 z) 9)) fun e w' =>
      (∃ s : ByteArray, s.size ≤ 20 ∧ e = .returned (.string s)) ∧ Rd w' b sl n (p + 1) ∧ Below b w w' := by
  have hlt := h.lt
  refine (of_at b n p 8 w.heap.size 8 sl z _ (h.old _) (by omega) (by decide) (by decide) (by omega) ?_).mono ?_
  · intro j hj
    rw [cell_of_row _ _ j _ _ _ (heap_alloc_new w _)]
    obtain rfl | rfl | rfl | rfl | rfl | rfl | rfl | rfl : j = 0 ∨ j = 1 ∨ j = 2 ∨ j = 3 ∨ j = 4 ∨ j = 5 ∨ j = 6 ∨ j = 7 := by omega
    all_goals rfl
  · rintro e w' ⟨⟨j, hj, rfl⟩, hP⟩
    exact ⟨⟨_, hz j hj, rfl⟩, hP.rd, ((Below.refl b w).alloc (Nat.le_of_lt hlt) _).trans hP.below⟩
def exC (j : Nat) : ByteArray := if j = 0 then ⟨#[59, 65, 50, 52, 56, 49, 33, 51]⟩ else if j = 1 then ⟨#[38, 65, 50, 52, 56, 49, 115]⟩ else if j = 2 then ⟨#[124, 33, 49, 65, 51, 99, 51, 99]⟩ else if j = 3 then ⟨#[42, 65, 56, 52, 50, 49]⟩ else if j = 4 then ⟨#[43, 59, 33, 55, 65, 49, 50, 52, 56]⟩ else if j = 5 then ⟨#[97]⟩ else if j = 6 then ⟨#[59, 115, 124, 97, 33, 53]⟩ else ⟨#[109]⟩
theorem exC_le (j : Nat) (hj : j < 8) : (exC j).size ≤ 20 := by
  obtain rfl | rfl | rfl | rfl | rfl | rfl | rfl | rfl : j = 0 ∨ j = 1 ∨ j = 2 ∨ j = 3 ∨ j = 4 ∨ j = 5 ∨ j = 6 ∨ j = 7 := by omega
  all_goals decide
theorem exOf_at (b n p : Nat) (sl : Value) (w : World) (h : Rd w b sl n p) (hp : p ≤ 800000) :
    Calls Tryz.prog 33 #[.pointer (some ⟨b, 0, none⟩), .slice (some ⟨w.heap.size, 0, none⟩) 8 8] (w.alloc (.cells #[.string ⟨#[59, 65, 50, 52, 56, 49, 33, 51]⟩, .string ⟨#[38, 65, 50, 52, 56, 49, 115]⟩, .string ⟨#[124, 33, 49, 65, 51, 99, 51, 99]⟩, .string ⟨#[42, 65, 56, 52, 50, 49]⟩, .string ⟨#[43, 59, 33, 55, 65, 49, 50, 52, 56]⟩, .string ⟨#[97]⟩, .string ⟨#[59, 115, 124, 97, 33, 53]⟩, .string ⟨#[109]⟩] 9)) fun e w' =>
      (∃ s : ByteArray, s.size ≤ 20 ∧ e = .returned (.string s)) ∧ Rd w' b sl n (p + 1) ∧ Below b w w' :=
  of8_at b n p sl w exC h hp exC_le
theorem DrawConcreteContract_at (a : Option Addr) (len cap : Nat) (zs : List Int) (w : World) (h : IsRow .u8 w a len cap zs) :
    Calls Tryz.prog 16 #[.slice a len cap] w fun e w' => (∃ (r c : ByteArray), r.size ≤ 5 ∧ c.size ≤ 1000 ∧ e = .returned (.tuple #[.string r, .string c])) ∧ Below w.heap.size w w' := by
  go_enter Tryz.func16, Tryz.ntmps16
  go_wp2_with fail
  refine (l14Open_at a len cap zs w h).mono ?_
  rintro e w1 ⟨rfl, ⟨sl, n, H⟩, hb⟩
  go_wp2_with fail
  refine (l11View_at _ n 0 sl _ H (by omega)).mono ?_
  rintro e w2 ⟨⟨r, hr, rfl⟩, q, hq, H2, hb2⟩
  clear H
  go_wp2_with fail
  refine (l5Open_at _ n q sl _ H2 (by omega)).mono ?_
  rintro e w3 ⟨⟨c, hc, rfl⟩, q3, hq3, H3, hb3⟩
  replace hb3 := hb2.trans hb3
  clear H2 hb2
  go_wp2_with fail
  refine (pick_at _ n q3 3 sl _ H3 (by omega) (by decide) (by decide)).mono ?_
  rintro e w4 ⟨⟨v, rfl, hv⟩, hP⟩
  have H4 := hP.rd
  have hb4 := hb3.trans hP.below
  clear H3 hb3 hP
  obtain h0 | h0 : v = 0 ∨ 1 ≤ v := by omega
  · subst h0
    go_wp2_with fail
    go_ret2
    exact ⟨⟨r, c, hr, hc, rfl⟩, hb.trans hb4⟩
  · have e0 : (0 : Int) < (v : Int) := by omega
    go_wp2_with fail
    refine (exOf_at _ n (q3 + 1) sl w4 H4 (by omega)).mono ?_
    rintro e w5 ⟨⟨c2, hc2, rfl⟩, H5, hb5⟩
    go_wp2_with fail
    go_ret2
    exact ⟨⟨r, c2, hr, by omega, rfl⟩, hb.trans (hb4.trans hb5)⟩
end Go.Proofs.YtaeibhpkcikaaaaGreat
