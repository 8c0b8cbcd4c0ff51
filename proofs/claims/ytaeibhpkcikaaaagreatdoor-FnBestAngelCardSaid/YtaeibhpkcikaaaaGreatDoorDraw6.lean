/- Contracts: the drawing of contracts, states and choices. -/
import Derived.Test.YtaeibhpkcikaaaaGreatDoorGH
namespace Go.Proofs.YtaeibhpkcikaaaaGreatDoor
set_option linter.unusedVariables false
set_option linter.unusedSimpArgs false
open Go.RowKit Go.Shelf
set_option maxRecDepth 100000
set_option maxHeartbeats 20000000

/-- the numbers of which a bad state is taken -/
def badS (j : Nat) : Int := if j = 0 then -1 else if j = 1 then 4 else 9223372036854775807
theorem l1Spot_at (b n p : Nat) (sl : Value) (w : World) (h : Rd w b sl n p) (hp : p ≤ 700000) :
    Calls Tryz.prog 34 #[.pointer (some ⟨b, 0, none⟩)] w fun e w' => (∃ x : Int, e = .returned (.int .i64 x)) ∧ ∃ q, q ≤ p + 2 ∧ Rd w' b sl n q ∧ Below b w w' := by
  go_enter Tryz.func34, Tryz.ntmps34
  go_wp2_with fail
  refine (pick_at b n p 24 sl w h (by omega) (by decide) (by decide)).mono ?_
  rintro e w1 ⟨⟨v, rfl, hv⟩, hP⟩
  have H1 := hP.rd
  have hb1 := hP.below
  clear h hP
  obtain h2 | h2 : v = 0 ∨ 1 ≤ v := by omega
  · subst h2
    go_wp2_with fail
    have hbb := H1.lt
    have hb0 : Below b w1 (w1.alloc (Obj.cells #[.int .i64 (-1), .int .i64 4, .int .i64 9223372036854775807] 3)) := (Below.refl b w1).alloc (by omega) _
    have H2 : Rd (w1.alloc (Obj.cells #[.int .i64 (-1), .int .i64 4, .int .i64 9223372036854775807] 3)) b sl n (0 + p + 1) := by
      rw [Nat.zero_add]; exact H1.keep hb0 (Below.heap_alloc w1 _ b hbb)
    have hcell : ∀ j, j < 3 → (w1.alloc (Obj.cells #[.int .i64 (-1), .int .i64 4, .int .i64 9223372036854775807] 3)).cell? ⟨w1.heap.size, j, none⟩ = some (.int .i64 (badS j)) := by
      intro j hj
      rw [cell_of_row _ _ j _ _ _ (heap_alloc_new w1 _)]
      obtain rfl | rfl | rfl : j = 0 ∨ j = 1 ∨ j = 2 := by omega
      all_goals rfl
    refine (num_at b n (0 + p + 1) 3 w1.heap.size 3 sl _ _ H2 (by omega) (by decide) (by decide) (by omega) hcell).mono ?_
    rintro e w2 ⟨⟨j, hj, rfl⟩, q, hq, H3, hb3⟩
    go_wp2_with fail
    go_ret
    exact ⟨⟨_, rfl⟩, q, by omega, H3, (hb1.trans hb0).trans hb3⟩
  · have e0 : ((v : Int) == 0) = false := by rw [beq_eq_false_iff_ne]; omega
    go_wp2_with fail
    refine (pick_at b n (p + 1) 4 sl _ H1 (by omega) (by decide) (by decide)).mono ?_
    rintro e w2 ⟨⟨x, rfl, hx⟩, hP⟩
    have H2 := hP.rd
    have hb2 := hP.below
    clear hP
    go_wp2_with fail
    go_ret
    exact ⟨⟨_, rfl⟩, p + 1 + 1, by omega, H2, hb1.trans hb2⟩
/-- how long a drawn contract may be, and how often its source may be asked -/
def dLen : Nat → Nat
  | 0 => 5
  | d + 1 => 2 + 2 * dLen d
def dAsk : Nat → Nat
  | 0 => 25
  | d + 1 => 25 + 2 * dAsk d
theorem dLen_ge (d : Nat) : 5 ≤ dLen d := by cases d <;> simp [dLen]; rename_i d; have := dLen_ge d; omega
theorem dAsk_ge (d : Nat) : 25 ≤ dAsk d := by cases d <;> simp [dAsk]
def DrEnd (B K b n p : Nat) (sl : Value) (w : World) (e : Ending) (w' : World) : Prop := (∃ s : ByteArray, 1 ≤ s.size ∧ s.size ≤ B ∧ e = .returned (.string s)) ∧ ∃ q, q ≤ p + K ∧ Rd w' b sl n q ∧ Below b w w'
theorem sz1 (b : UInt8) : (⟨#[b]⟩ : ByteArray).size = 1 := rfl
theorem dLen_le {d : Nat} (h : d ≤ 4) : dLen d ≤ 200 := by
  obtain rfl | rfl | rfl | rfl | rfl : d = 0 ∨ d = 1 ∨ d = 2 ∨ d = 3 ∨ d = 4 := by omega
  all_goals decide
theorem of2_at (b n p : Nat) (sl : Value) (w : World) (z0 z1 : ByteArray) (h : Rd w b sl n p) (hp : p ≤ 800000) (h0 : z0.size = 1) (h1 : z1.size = 1) :
    Calls Tryz.prog 36 #[.pointer (some ⟨b, 0, none⟩), .slice (some ⟨w.heap.size, 0, none⟩) 2 2] (w.alloc (.cells #[.string z0, .string z1] 9)) fun e w' =>
      (∃ s : ByteArray, s.size = 1 ∧ e = .returned (.string s)) ∧ Rd w' b sl n (p + 1) ∧ Below b w w' := by
  have hlt := h.lt
  refine (of_at b n p 2 w.heap.size 2 sl (fun j => if j = 0 then z0 else z1) _ (h.old _) (by omega) (by decide) (by decide) (by omega) ?_).mono ?_
  · intro j hj
    rw [cell_of_row _ _ j _ _ _ (heap_alloc_new w _)]
    obtain rfl | rfl : j = 0 ∨ j = 1 := by omega
    all_goals rfl
  · rintro e w' ⟨⟨j, hj, rfl⟩, hP⟩
    refine ⟨⟨_, ?_, rfl⟩, hP.rd, ((Below.refl b w).alloc (Nat.le_of_lt hlt) _).trans hP.below⟩
    obtain rfl | rfl : j = 0 ∨ j = 1 := by omega
    all_goals (simp; assumption)
/-- what a source answers is fixed by what it holds -/
theorem pick_det (b n p m : Nat) (sl : Value) (w : World) (h : Rd w b sl n p) (hp : p ≤ 1000000) (hm : 1 ≤ m) (hm2 : m ≤ 1000) :
    ∃ v : Nat, v < m ∧ Calls Tryz.prog 33 #[.pointer (some ⟨b, 0, none⟩), .int .i64 m] w fun e w' => e = .returned (.int .i64 v) ∧ Picked w w' b sl n p := by
  have hP := h.picked
  have h0 := h.cell0
  have h1 := h.cell1
  have hf := h.free 1
  rcases h.bts with ⟨rfl, a, c, rfl⟩ | ⟨hn, hn2, x, cap, rfl, hx, z, hz⟩
  · refine ⟨0, by omega, ?_⟩
    go_enter Tryz.func33, Tryz.ntmps33
    go_wp2_with fail
    go_ret
    exact ⟨rfl, hP⟩
  · have en : ((n : Int) == 0) = false := by rw [beq_eq_false_iff_ne]; omega
    have en2 : ¬ (n : Int) = 0 := by omega
    have em : decide ((m : Int) < 1) = false := by rw [decide_eq_false_iff_not]; omega
    by_cases hk : p < n
    · obtain ⟨c1', c2, c3⟩ := hz p hk
      have c1 := (hP.below.cell (by unfold Addr.add; split <;> exact hx)).trans c1'
      clear c1'
      push_cast at c1
      have q1 : 0 ≤ z p % m := Int.emod_nonneg _ (by omega)
      have q2 : z p % m < m := Int.emod_lt_of_pos _ (by omega)
      clear hz
      refine ⟨(z p % m).toNat, by omega, ?_⟩
      have q3 : (((z p % m).toNat : Nat) : Int) = z p % m := Int.toNat_of_nonneg q1
      rw [q3]
      clear q3
      go_enter Tryz.func33, Tryz.ntmps33
      go_wp2_with fail
      go_ret
      exact ⟨rfl, hP⟩
    · have i1 : p % n < n := Nat.mod_lt _ hn
      have j1 : (p * 7 + 3) % n < n := Nat.mod_lt _ hn
      obtain ⟨c1', c2, c3⟩ := hz (p % n) i1
      obtain ⟨d1', d2, d3⟩ := hz ((p * 7 + 3) % n) j1
      have c1 := (hP.below.cell (by unfold Addr.add; split <;> exact hx)).trans c1'
      have d1 := (hP.below.cell (by unfold Addr.add; split <;> exact hx)).trans d1'
      clear c1' d1'
      push_cast at c1 d1
      have n0 : (n : Int) ≠ 0 := by omega
      have k1 : 0 ≤ (p : Int) % n := Int.emod_nonneg _ n0
      have k2 : (p : Int) % n < n := Int.emod_lt_of_pos _ (by omega)
      have k3 : 0 ≤ ((p : Int) * 7 + 3) % n := Int.emod_nonneg _ n0
      have k4 : ((p : Int) * 7 + 3) % n < n := Int.emod_lt_of_pos _ (by omega)
      clear hz
      have l1 : 0 ≤ (p : Int) / n := Int.ediv_nonneg (by omega) (by omega)
      have l2 : (p : Int) / n ≤ p := Int.ediv_le_self _ (by omega)
      have hk' : n ≤ p := by omega
      have m0 : (0 : Int) < m := by omega
      have hX := xor_int (z (p % n) * 131 + z ((p * 7 + 3) % n) * 1117 + ↑p * 29 + ↑p / ↑n * 53) (by omega) (by omega)
      have r1 := Int.tmod_nonneg (m : Int) hX
      have r2 := Int.tmod_lt_of_pos (bits .xor .i64 (z (p % n) * 131 + z ((p * 7 + 3) % n) * 1117 + ↑p * 29 + ↑p / ↑n * 53) ((z (p % n) * 131 + z ((p * 7 + 3) % n) * 1117 + ↑p * 29 + ↑p / ↑n * 53) / 64)) m0
      refine ⟨((bits .xor .i64 (z (p % n) * 131 + z ((p * 7 + 3) % n) * 1117 + ↑p * 29 + ↑p / ↑n * 53) ((z (p % n) * 131 + z ((p * 7 + 3) % n) * 1117 + ↑p * 29 + ↑p / ↑n * 53) / 64)).tmod m).toNat, by omega, ?_⟩
      rw [Int.toNat_of_nonneg r1]
      clear r1 r2 hX
      go_enter Tryz.func33, Tryz.ntmps33
      go_wp2_with fail
      go_region
      go_wp2_with fail
      go_ret
      exact ⟨rfl, hP.drew⟩
/-- the first pick of a drawn contract -/
def PickIs (b n p : Nat) (sl : Value) (w : World) (v : Nat) : Prop :=
  Calls Tryz.prog 33 #[.pointer (some ⟨b, 0, none⟩), .int .i64 (16 : Nat)] w fun e w' => e = .returned (.int .i64 v) ∧ Picked w w' b sl n p
/-- a drawn contract of a depth -/
def DrawsAt (d : Nat) (loops : Bool) : Prop := ∀ (b n p : Nat) (sl : Value) (w : World), Rd w b sl n p → ∀ x : Int, x = d → p + dAsk d ≤ 600000 → Calls Tryz.prog 32 #[.pointer (some ⟨b, 0, none⟩), .int .i64 x, .bool loops] w (DrEnd (dLen d) (dAsk d) b n p sl w)
end Go.Proofs.YtaeibhpkcikaaaaGreatDoor
