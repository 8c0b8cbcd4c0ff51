/- Contracts: the drawing of arguments. -/
import Derived.Test.YtaeibhpkcikaaaaGreatDoorGB
import Derived.Test.YtaeibhpkcikaaaaGreatDoorGA
namespace Go.Proofs.YtaeibhpkcikaaaaGreatDoor
set_option linter.unusedVariables false
set_option linter.unusedSimpArgs false
open Go.RowKit Go.Shelf
set_option maxRecDepth 100000
set_option maxHeartbeats 1000000

/-- the bytes that a source reads lie in the world -/
def Bts (w : World) (b : Nat) (n : Nat) (sl : Value) : Prop :=
  (n = 0 ∧ ∃ a c, sl = .slice a 0 c) ∨ (0 < n ∧ n ≤ 2000 ∧ ∃ x cap, sl = .slice (some x) n cap ∧ x.block < b ∧ ∃ z : Nat → Int, ∀ j, j < n → w.cell? (x.add j) = some (.int .u8 (z j)) ∧ 0 ≤ z j ∧ z j ≤ 255)
/-- block b holds a source of random numbers that was asked p times -/
structure Rd (w : World) (b : Nat) (sl : Value) (n : Nat) (p : Nat) : Prop where
  eq : w.heap[b]? = some (.cells #[sl, .int .i64 p] 98 (0, 0))
  bts : Bts w b n sl
theorem Rd.cell0 {w : World} {b n p : Nat} {sl : Value} (h : Rd w b sl n p) : w.cell? ⟨b, 0, none⟩ = some sl := by
  rw [cell_of_row w b 0 _ _ _ h.eq]; rfl
theorem Rd.cell1 {w : World} {b n p : Nat} {sl : Value} (h : Rd w b sl n p) : w.cell? ⟨b, 1, none⟩ = some (.int .i64 p) := by
  rw [cell_of_row w b 1 _ _ _ h.eq]; rfl
theorem Rd.free {w : World} {b n p : Nat} {sl : Value} (h : Rd w b sl n p) (k : Nat) : w.frozen? ⟨b, k, none⟩ = false := frozen_of_row w b k _ _ h.eq
theorem Rd.lt {w : World} {b n p : Nat} {sl : Value} (h : Rd w b sl n p) : b < w.heap.size := (Array.getElem?_eq_some_iff.1 h.eq).1

/-- a source was asked once more, and nothing else has turned -/
structure Picked (w w' : World) (b : Nat) (sl : Value) (n p : Nat) : Prop where
  rd : Rd w' b sl n (p + 1)
  below : Below b w w'
  other : ∀ i, i ≠ b → w'.heap[i]? = w.heap[i]?
  size : w'.heap.size = w.heap.size
theorem Bts.keep {w w' : World} {b n : Nat} {sl : Value} (h : Bts w b n sl) (hb : Below b w w') : Bts w' b n sl := by
  rcases h with h | ⟨hn, hn2, x, cap, rfl, hx, z, hz⟩
  · exact .inl h
  · exact .inr ⟨hn, hn2, x, cap, rfl, hx, z, fun j hj => ⟨(hb.cell (by unfold Addr.add; split <;> exact hx)).trans (hz j hj).1, (hz j hj).2⟩⟩
theorem Rd.picked {w : World} {b n p : Nat} {sl : Value} (h : Rd w b sl n p) : Picked w (w.setCell ⟨b, 1, none⟩ (.int .i64 (p + 1 : Nat))) b sl n p := by
  have hb : Below b w (w.setCell ⟨b, 1, none⟩ (.int .i64 (p + 1 : Nat))) := below_setAt (Below.refl _ _) _ _ (Nat.le_refl _) _
  refine ⟨⟨?_, h.bts.keep hb⟩, hb, fun i hi => heap_setCell_other w _ i _ hi, by simp⟩
  exact heap_setCell_same w b 1 _ _ _ h.eq
theorem Picked.drew {w w' : World} {b n p : Nat} {sl : Value} (h : Picked w w' b sl n p) : Picked w w'.drew b sl n p :=
  ⟨⟨h.rd.eq, h.rd.bts.keep (Below.refl _ _).drew⟩, h.below.drew, h.other, h.size⟩
theorem xor_nat (a b : Nat) (ha : a < 4294967296) (hb : b < 4294967296) : 0 ≤ bits .xor .i64 a b := by
  have e : bits .xor .i64 (a : Int) (b : Int) = IntKind.i64.wrap ((a ^^^ b : Nat) : Int) := by
    show IntKind.i64.wrap ((BitVec.ofInt 64 (a : Int) ^^^ BitVec.ofInt 64 (b : Int)).toNat : Nat) = _
    rw [BitVec.toNat_xor, BitVec.ofInt_natCast, BitVec.ofInt_natCast, BitVec.toNat_ofNat, BitVec.toNat_ofNat, Nat.mod_eq_of_lt (by omega), Nat.mod_eq_of_lt (by omega)]
  have h := Nat.xor_lt_two_pow (n := 32) ha hb
  rw [e, IntKind.wrap_i64]
  omega
theorem xor_int (x : Int) (h : 0 ≤ x) (k : x < 4294967296) : 0 ≤ bits .xor .i64 x (x / 64) := by
  obtain ⟨a, rfl⟩ := Int.eq_ofNat_of_zero_le h
  have : (a : Int) / 64 = ((a / 64 : Nat) : Int) := by push_cast; rfl
  rw [this]
  exact xor_nat a (a / 64) (by omega) (by omega)
theorem ret_nat {x : Int} {m : Nat} (h : 0 ≤ x ∧ x < m) : ∃ v : Nat, Ending.returned (.int .i64 x) = .returned (.int .i64 v) ∧ v < m := ⟨x.toNat, by rw [Int.toNat_of_nonneg h.1], by omega⟩

theorem pick_at (b n p m : Nat) (sl : Value) (w : World) (h : Rd w b sl n p) (hp : p ≤ 1000000) (hm : 1 ≤ m) (hm2 : m ≤ 1000) :
    Calls Tryz.prog 33 #[.pointer (some ⟨b, 0, none⟩), .int .i64 m] w fun e w' => (∃ v : Nat, e = .returned (.int .i64 v) ∧ v < m) ∧ Picked w w' b sl n p := by
  have hP := h.picked
  have h0 := h.cell0
  have h1 := h.cell1
  have hf := h.free 1
  rcases h.bts with ⟨rfl, a, c, rfl⟩ | ⟨hn, hn2, x, cap, rfl, hx, z, hz⟩
  · go_enter Tryz.func33, Tryz.ntmps33
    go_wp2_with fail
    go_ret
    exact ⟨⟨0, rfl, by omega⟩, hP⟩
  · have en : ((n : Int) == 0) = false := by rw [beq_eq_false_iff_ne]; omega
    have en2 : ¬ (n : Int) = 0 := by omega
    have em : decide ((m : Int) < 1) = false := by rw [decide_eq_false_iff_not]; omega
    by_cases hk : p < n
    · obtain ⟨c1', c2, c3⟩ := hz p hk
      have c1 := (hP.below.cell (by unfold Addr.add; split <;> exact hx)).trans c1'
      clear c1'
      push_cast at c1
      have q1 : 0 ≤ z p % m := Int.emod_nonneg _ (by omega)
      have q2 : z p % m < m := Int.emod_lt_of_pos _ (by omega)
      clear hz
      go_enter Tryz.func33, Tryz.ntmps33
      go_wp2_with fail
      go_ret
      exact ⟨ret_nat ⟨q1, q2⟩, hP⟩
    · have i1 : p % n < n := Nat.mod_lt _ hn
      have j1 : (p * 7 + 3) % n < n := Nat.mod_lt _ hn
      obtain ⟨c1', c2, c3⟩ := hz (p % n) i1
      obtain ⟨d1', d2, d3⟩ := hz ((p * 7 + 3) % n) j1
      have c1 := (hP.below.cell (by unfold Addr.add; split <;> exact hx)).trans c1'
      have d1 := (hP.below.cell (by unfold Addr.add; split <;> exact hx)).trans d1'
      clear c1' d1'
      push_cast at c1 d1
      have n0 : (n : Int) ≠ 0 := by omega
      have k1 : 0 ≤ (p : Int) % n := Int.emod_nonneg _ n0
      have k2 : (p : Int) % n < n := Int.emod_lt_of_pos _ (by omega)
      have k3 : 0 ≤ ((p : Int) * 7 + 3) % n := Int.emod_nonneg _ n0
      have k4 : ((p : Int) * 7 + 3) % n < n := Int.emod_lt_of_pos _ (by omega)
      clear hz
      have l1 : 0 ≤ (p : Int) / n := Int.ediv_nonneg (by omega) (by omega)
      have l2 : (p : Int) / n ≤ p := Int.ediv_le_self _ (by omega)
      have hk' : n ≤ p := by omega
      go_enter Tryz.func33, Tryz.ntmps33
      go_wp2_with fail
      go_region
      go_wp2_with fail
      go_ret
      refine ⟨ret_nat ?_, hP.drew⟩
      have m0 : (0 : Int) < m := by omega
      have hX := xor_int (z (p % n) * 131 + z ((p * 7 + 3) % n) * 1117 + ↑p * 29 + ↑p / ↑n * 53) (by omega) (by omega)
      exact ⟨Int.tmod_nonneg _ hX, Int.tmod_lt_of_pos _ m0⟩

theorem zeroC : C 0 := ⟨by decide, by decide⟩
theorem shC {v : Nat} (h : v < 4) : C (sh v) := by
  rw [sh_eq (by omega)]
  obtain rfl | rfl | rfl | rfl : v = 0 ∨ v = 1 ∨ v = 2 ∨ v = 3 := by omega
  all_goals exact ⟨by decide, by decide⟩
theorem natC {v : Nat} (h : v < 16) : C (v : Int) := ⟨by omega, by omega⟩
theorem cond_upd {f : Nat → Int} (hf : Cond f) (k : Nat) {x : Int} (hx : C x) : Cond (upd f k x) := fun j => by
  unfold upd; split
  · exact hx
  · exact hf j
theorem txt_upd (k : Nat) (f : Nat → Int) (x : Int) : txt k f ++ dgs x = txt (k + 1) (upd f k x) := by
  rw [← txt_succ, upd_same, txt_ext (f := f) (g := upd f k x) fun j hj => (upd_other _ _ _ _ (by omega)).symm]

theorem l2Some_at (b n p : Nat) (sl : Value) (w : World) (h : Rd w b sl n p) (hp : p ≤ 900000) :
    Calls Tryz.prog 68 #[.pointer (some ⟨b, 0, none⟩)] w fun e w' => (∃ f, Cond f ∧ e = .returned (.string (txt 4 f))) ∧ ∃ q, q ≤ p + 20 ∧ Rd w' b sl n q ∧ Below b w w' := by
  go_enter Tryz.func68, Tryz.ntmps68
  go_wp2_with fail
  refine (pick_at b n p 4 sl w h (by omega) (by decide) (by decide)).mono ?_
  rintro e w1 ⟨⟨kind, rfl, hkd⟩, hP⟩
  have H1 := hP.rd
  have hb1 := hP.below
  clear h hP
  go_wp2_with fail
  go_loopw [3, 5] (fun o i wr => ∃ (k q : Nat) (f : Nat → Int), k ≤ 4 ∧ i = .int .i64 k ∧ o = .string (txt k f) ∧ Cond f ∧ q ≤ p + 1 + 2 * k ∧ Rd wr b sl n q ∧ Below b w wr) (fun _ i _ => 4 - (intOf i).toNat)
  case atStart => exact ⟨0, p + 1, fun _ => 0, by omega, rfl, rfl, fun _ => zeroC, by omega, H1, hb1⟩
  case round =>
    clear H1 hb1
    obtain ⟨k, q, f, hk, rfl, rfl, hf, hq, H, hb⟩ := hrel
    by_cases hlt : k < 4
    · go_wp2_with fail
      refine (pick_at b n q 16 sl _ H (by omega) (by decide) (by decide)).mono ?_
      rintro e w2 ⟨⟨v, rfl, hv⟩, hP⟩
      have hb2 := hb.trans hP.below
      have H2 := hP.rd
      clear hP H hb
      obtain h2 | h2 | h2 : kind = 0 ∨ kind = 1 ∨ 2 ≤ kind := by omega
      · have e0 : ((kind : Int) == 0) = true := by rw [beq_iff_eq]; omega
        go_wp2_with fail
        refine (pick_at b n (q + 1) 4 sl _ H2 (by omega) (by decide) (by decide)).mono ?_
        rintro e w3 ⟨⟨v3, rfl, hv3⟩, hP⟩
        have hb3 := hb2.trans hP.below
        have H3 := hP.rd
        clear hP H2 hb2
        go_wp2_with fail
        have hc := shC hv3
        refine (spec_l2Digit _ _ hc.1 hc.2).mono ?_
        rintro e w' ⟨rfl, rfl⟩
        go_wp2_with fail
        rw [show Value.int IntKind.i64 0 = Value.int IntKind.i64 (kind : Int) by rw [show (kind : Int) = 0 by omega]]
        go_roundw
        case rel => exact ⟨k + 1, q + 2, upd f k _, by omega, by go_num, congrArg Value.string (txt_upd k f _), cond_upd hf k hc, by omega, H3, hb3⟩
        case measure => simp [intOf]; omega
      · have e0 : ((kind : Int) == 0) = false := by rw [beq_eq_false_iff_ne]; omega
        have e1 : ((kind : Int) == 1) = true := by rw [beq_iff_eq]; omega
        go_wp2_with fail
        refine (pick_at b n (q + 1) 16 sl _ H2 (by omega) (by decide) (by decide)).mono ?_
        rintro e w3 ⟨⟨v3, rfl, hv3⟩, hP⟩
        have hb3 := hb2.trans hP.below
        have H3 := hP.rd
        clear hP H2 hb2
        go_wp2_with fail
        have hc := C.and (natC hv) (natC hv3)
        refine (spec_l2Digit _ _ hc.1 hc.2).mono ?_
        rintro e w' ⟨rfl, rfl⟩
        go_wp2_with fail
        rw [show Value.int IntKind.i64 1 = Value.int IntKind.i64 (kind : Int) by rw [show (kind : Int) = 1 by omega]]
        go_roundw
        case rel => exact ⟨k + 1, q + 2, upd f k _, by omega, by go_num, congrArg Value.string (txt_upd k f _), cond_upd hf k hc, by omega, H3, hb3⟩
        case measure => simp [intOf]; omega
      · have e0 : ((kind : Int) == 0) = false := by rw [beq_eq_false_iff_ne]; omega
        have e1 : ((kind : Int) == 1) = false := by rw [beq_eq_false_iff_ne]; omega
        go_wp2_with fail
        have hc := natC hv
        refine (spec_l2Digit _ _ hc.1 hc.2).mono ?_
        rintro e w' ⟨rfl, rfl⟩
        go_wp2_with fail
        go_roundw
        case rel => exact ⟨k + 1, q + 1, upd f k _, by omega, by go_num, congrArg Value.string (txt_upd k f _), cond_upd hf k hc, by omega, H2, hb2⟩
        case measure => simp [intOf]; omega
    · obtain rfl : k = 4 := by omega
      go_wp2_with fail
      go_ret
      exact ⟨⟨f, hf, rfl⟩, q, by omega, H, hb⟩

end Go.Proofs.YtaeibhpkcikaaaaGreatDoor
