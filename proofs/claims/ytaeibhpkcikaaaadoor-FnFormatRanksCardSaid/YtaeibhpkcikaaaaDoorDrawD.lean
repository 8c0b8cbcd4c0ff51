/- The drawing of a list of numbers. -/
import Derived.Test.YtaeibhpkcikaaaaDoorFmtE
import Derived.Test.YtaeibhpkcikaaaaDoorRowKit
namespace Go.Proofs.YtaeibhpkcikaaaaDoor
set_option linter.unusedVariables false
set_option linter.unusedSimpArgs false
open Go.RowKit Go.Shelf
set_option maxRecDepth 100000
set_option maxHeartbeats 4000000

/-- the bytes that a source reads lie in the world -/
def Bts (w : World) (b : Nat) (n : Nat) (sl : Value) : Prop :=
  (n = 0 ∧ ∃ a c, sl = .slice a 0 c) ∨ (0 < n ∧ n ≤ 2000 ∧ ∃ x cap, sl = .slice (some x) n cap ∧ x.block < b ∧ ∃ z : Nat → Int, ∀ j, j < n → w.cell? (x.add j) = some (.int .u8 (z j)) ∧ 0 ≤ z j ∧ z j ≤ 255)
/-- block b holds a source of random numbers that was asked p times -/
structure Rd (w : World) (b : Nat) (sl : Value) (n : Nat) (p : Nat) : Prop where
  eq : w.heap[b]? = some (.cells #[sl, .int .i64 p] 47 (0, 0))
  bts : Bts w b n sl
theorem Rd.cell0 {w : World} {b n p : Nat} {sl : Value} (h : Rd w b sl n p) : w.cell? ⟨b, 0, none⟩ = some sl := by
  rw [cell_of_row w b 0 _ _ _ h.eq]; rfl
theorem Rd.cell1 {w : World} {b n p : Nat} {sl : Value} (h : Rd w b sl n p) : w.cell? ⟨b, 1, none⟩ = some (.int .i64 p) := by
  rw [cell_of_row w b 1 _ _ _ h.eq]; rfl
theorem Rd.free {w : World} {b n p : Nat} {sl : Value} (h : Rd w b sl n p) (k : Nat) : w.frozen? ⟨b, k, none⟩ = false := frozen_of_row w b k _ _ h.eq
theorem Rd.lt {w : World} {b n p : Nat} {sl : Value} (h : Rd w b sl n p) : b < w.heap.size := (Array.getElem?_eq_some_iff.1 h.eq).1

/-- a source was asked once more, and nothing else has turned -/
structure Picked (w w' : World) (b : Nat) (sl : Value) (n p : Nat) : Prop where
  rd : Rd w' b sl n (p + 1)
  below : Below b w w'
  other : ∀ i, i ≠ b → w'.heap[i]? = w.heap[i]?
  size : w'.heap.size = w.heap.size
theorem Bts.keep {w w' : World} {b n : Nat} {sl : Value} (h : Bts w b n sl) (hb : Below b w w') : Bts w' b n sl := by
  rcases h with h | ⟨hn, hn2, x, cap, rfl, hx, z, hz⟩
  · exact .inl h
  · exact .inr ⟨hn, hn2, x, cap, rfl, hx, z, fun j hj => ⟨(hb.cell (by unfold Addr.add; split <;> exact hx)).trans (hz j hj).1, (hz j hj).2⟩⟩
theorem Rd.picked {w : World} {b n p : Nat} {sl : Value} (h : Rd w b sl n p) : Picked w (w.setCell ⟨b, 1, none⟩ (.int .i64 (p + 1 : Nat))) b sl n p := by
  have hb : Below b w (w.setCell ⟨b, 1, none⟩ (.int .i64 (p + 1 : Nat))) := below_setAt (Below.refl _ _) _ _ (Nat.le_refl _) _
  refine ⟨⟨?_, h.bts.keep hb⟩, hb, fun i hi => heap_setCell_other w _ i _ hi, by simp⟩
  exact heap_setCell_same w b 1 _ _ _ h.eq
theorem Picked.drew {w w' : World} {b n p : Nat} {sl : Value} (h : Picked w w' b sl n p) : Picked w w'.drew b sl n p :=
  ⟨⟨h.rd.eq, h.rd.bts.keep (Below.refl _ _).drew⟩, h.below.drew, h.other, h.size⟩
theorem xor_nat (a b : Nat) (ha : a < 4294967296) (hb : b < 4294967296) : 0 ≤ bits .xor .i64 a b := by
  have e : bits .xor .i64 (a : Int) (b : Int) = IntKind.i64.wrap ((a ^^^ b : Nat) : Int) := by
    show IntKind.i64.wrap ((BitVec.ofInt 64 (a : Int) ^^^ BitVec.ofInt 64 (b : Int)).toNat : Nat) = _
    rw [BitVec.toNat_xor, BitVec.ofInt_natCast, BitVec.ofInt_natCast, BitVec.toNat_ofNat, BitVec.toNat_ofNat, Nat.mod_eq_of_lt (by omega), Nat.mod_eq_of_lt (by omega)]
  have h := Nat.xor_lt_two_pow (n := 32) ha hb
  rw [e, IntKind.wrap_i64]
  omega
theorem xor_int (x : Int) (h : 0 ≤ x) (k : x < 4294967296) : 0 ≤ bits .xor .i64 x (x / 64) := by
  obtain ⟨a, rfl⟩ := Int.eq_ofNat_of_zero_le h
  have : (a : Int) / 64 = ((a / 64 : Nat) : Int) := by push_cast; rfl
  rw [this]
  exact xor_nat a (a / 64) (by omega) (by omega)
theorem ret_nat {x : Int} {m : Nat} (h : 0 ≤ x ∧ x < m) : ∃ v : Nat, Ending.returned (.int .i64 x) = .returned (.int .i64 v) ∧ v < m := ⟨x.toNat, by rw [Int.toNat_of_nonneg h.1], by omega⟩

theorem pick_at (b n p m : Nat) (sl : Value) (w : World) (h : Rd w b sl n p) (hp : p ≤ 1000000) (hm : 1 ≤ m) (hm2 : m ≤ 1000) :
    Calls Tryd.prog 14 #[.pointer (some ⟨b, 0, none⟩), .int .i64 m] w fun e w' => (∃ v : Nat, e = .returned (.int .i64 v) ∧ v < m) ∧ Picked w w' b sl n p := by
  have hP := h.picked
  have h0 := h.cell0
  have h1 := h.cell1
  have hf := h.free 1
  rcases h.bts with ⟨rfl, a, c, rfl⟩ | ⟨hn, hn2, x, cap, rfl, hx, z, hz⟩
  · go_enter Tryd.func14, Tryd.ntmps14
    go_wp2_with fail
    go_ret
    exact ⟨⟨0, rfl, by omega⟩, hP⟩
  · have en : ((n : Int) == 0) = false := by rw [beq_eq_false_iff_ne]; omega
    have en2 : ¬ (n : Int) = 0 := by omega
    have em : decide ((m : Int) < 1) = false := by rw [decide_eq_false_iff_not]; omega
    by_cases hk : p < n
    · obtain ⟨c1', c2, c3⟩ := hz p hk
      have c1 := (hP.below.cell (by unfold Addr.add; split <;> exact hx)).trans c1'
      clear c1'
      push_cast at c1
      have q1 : 0 ≤ z p % m := Int.emod_nonneg _ (by omega)
      have q2 : z p % m < m := Int.emod_lt_of_pos _ (by omega)
      clear hz
      go_enter Tryd.func14, Tryd.ntmps14
      go_wp2_with fail
      go_ret
      exact ⟨ret_nat ⟨q1, q2⟩, hP⟩
    · have i1 : p % n < n := Nat.mod_lt _ hn
      have j1 : (p * 7 + 3) % n < n := Nat.mod_lt _ hn
      obtain ⟨c1', c2, c3⟩ := hz (p % n) i1
      obtain ⟨d1', d2, d3⟩ := hz ((p * 7 + 3) % n) j1
      have c1 := (hP.below.cell (by unfold Addr.add; split <;> exact hx)).trans c1'
      have d1 := (hP.below.cell (by unfold Addr.add; split <;> exact hx)).trans d1'
      clear c1' d1'
      push_cast at c1 d1
      have n0 : (n : Int) ≠ 0 := by omega
      have k1 : 0 ≤ (p : Int) % n := Int.emod_nonneg _ n0
      have k2 : (p : Int) % n < n := Int.emod_lt_of_pos _ (by omega)
      have k3 : 0 ≤ ((p : Int) * 7 + 3) % n := Int.emod_nonneg _ n0
      have k4 : ((p : Int) * 7 + 3) % n < n := Int.emod_lt_of_pos _ (by omega)
      clear hz
      have l1 : 0 ≤ (p : Int) / n := Int.ediv_nonneg (by omega) (by omega)
      have l2 : (p : Int) / n ≤ p := Int.ediv_le_self _ (by omega)
      have hk' : n ≤ p := by omega
      go_enter Tryd.func14, Tryd.ntmps14
      go_wp2_with fail
      go_region
      go_wp2_with fail
      go_ret
      refine ⟨ret_nat ?_, hP.drew⟩
      have m0 : (0 : Int) < m := by omega
      have hX := xor_int (z (p % n) * 131 + z ((p * 7 + 3) % n) * 1117 + ↑p * 29 + ↑p / ↑n * 53) (by omega) (by omega)
      exact ⟨Int.tmod_nonneg _ hX, Int.tmod_lt_of_pos _ m0⟩

theorem Picked.grown {w w' : World} {b n p : Nat} {sl : Value} (h : Picked w w' b sl n p) : w.grownBy w' (some b) :=
  ⟨h.below.os, h.below.tape, h.below.output, by rw [h.size]; exact Nat.le_refl _, fun k _ hne => h.other k (fun e => hne (by rw [e]))⟩
theorem Rd.keep {w w' : World} {b n p : Nat} {sl : Value} (h : Rd w b sl n p) (hb : Below b w w') (e : w'.heap[b]? = w.heap[b]?) : Rd w' b sl n p := ⟨e.trans h.eq, h.bts.keep hb⟩
theorem own_ne {w : World} {base b : Nat} {e : TypeId} {v : Value} {n : Nat} {xs : List Value} (h : w.ownsRow base e 1 v n xs) (hb : b < base) : v.ownBlock = none ∨ v.ownBlock ≠ some b :=
  .inr fun k => by have := (h.lt b k).1; omega
theorem Rd.old {w : World} {b n p : Nat} {sl : Value} (h : Rd w b sl n p) (o : Obj) : Rd (w.alloc o) b sl n p :=
  h.keep ((Below.refl b w).alloc (Nat.le_of_lt h.lt) o) (Below.heap_alloc w o b h.lt)

theorem l14Open_at (a : Option Addr) (len cap : Nat) (zs : List Int) (w : World) (h : IsRow .u8 w a len cap zs) :
    Calls Tryd.prog 13 #[.slice a len cap] w fun e w' => e = .returned (.pointer (some ⟨w.heap.size, 0, none⟩)) ∧ (∃ sl n, Rd w' w.heap.size sl n 0) ∧ Below w.heap.size w w' := by
  have hb : ∀ n sl, Bts w w.heap.size n sl → Rd (w.alloc (.cells #[sl, .int .i64 0] 47)) w.heap.size sl n 0 := fun n sl hB =>
    ⟨heap_alloc_new w _, hB.keep ((Below.refl _ _).alloc (Nat.le_refl _) _)⟩
  rcases h with ⟨rfl, rfl, rfl, rfl⟩ | ⟨x, rfl, hl, hm, hz, hc, hw⟩
  · go_enter Tryd.func13, Tryd.ntmps13
    go_wp2_with fail
    go_ret
    exact ⟨rfl, ⟨_, 0, hb 0 _ (.inl ⟨rfl, _, _, rfl⟩)⟩, below_new (Below.refl _ _) _⟩
  · have HB : ∀ n, n ≤ len → n ≤ 2000 → Bts w w.heap.size n (.slice (some x) n cap) := fun n hn hn2 => by
      rcases Nat.eq_zero_or_pos n with rfl | hpos
      · exact .inl ⟨rfl, _, _, rfl⟩
      · have h0 := hc 0 (by omega)
        have hx : x.block < w.heap.size := by
          have := block_lt_of_cell h0
          unfold Addr.add at this; split at this <;> exact this
        refine .inr ⟨hpos, hn2, x, cap, rfl, hx, fun j => zs.getD j 0, fun j hj => ⟨hc j (by omega), ?_⟩⟩
        have hmem : zs.getD j 0 ∈ zs := by
          rw [List.getD_eq_getElem?_getD, List.getElem?_eq_getElem (by omega)]; exact List.getElem_mem _
        have h9 := hw _ hmem
        show 0 ≤ zs.getD j 0 ∧ zs.getD j 0 ≤ 255
        generalize zs.getD j 0 = y at h9
        simp [Lit.wf, IntKind.min, IntKind.max, IntKind.signed, IntKind.bits] at h9
        omega
    clear hc hw
    by_cases h2 : 2000 < len
    · have hcap : 2000 ≤ cap := by omega
      go_enter Tryd.func13, Tryd.ntmps13
      go_wp2_with fail
      go_ret
      exact ⟨rfl, ⟨_, 2000, hb 2000 _ (HB 2000 (by omega) (by omega))⟩, below_new (Below.refl _ _) _⟩
    · go_enter Tryd.func13, Tryd.ntmps13
      go_wp2_with fail
      go_ret
      exact ⟨rfl, ⟨_, len, hb len _ (HB len (by omega) (by omega))⟩, below_new (Below.refl _ _) _⟩

theorem num_pk (b n p m g cap : Nat) (sl : Value) (z : Nat → Int) (w : World) (h : Rd w b sl n p) (hp : p ≤ 900000) (hm : 1 ≤ m) (hm2 : m ≤ 100) (hg : g ≠ b) (hz : ∀ j, j < m → w.cell? ⟨g, j, none⟩ = some (.int .i64 (z j))) :
    Calls Tryd.prog 15 #[.pointer (some ⟨b, 0, none⟩), .slice (some ⟨g, 0, none⟩) m cap] w fun e w' => (∃ j, j < m ∧ e = .returned (.int .i64 (z j))) ∧ Picked w w' b sl n p := by
  go_enter Tryd.func15, Tryd.ntmps15
  go_wp2_with fail
  refine (pick_at b n p m sl w h (by omega) hm (by omega)).mono ?_
  rintro e w1 ⟨⟨v, rfl, hv⟩, hP⟩
  have h1 : w1.cell? ⟨g, v, none⟩ = some (.int .i64 (z v)) := (World.cell?_of_block (hP.other g hg)).trans (hz v hv)
  have hv2 : (v : Int) < m := by omega
  go_wp2_with fail
  go_ret
  exact ⟨⟨v, hv, rfl⟩, hP⟩
/-- the numbers of which a list is made -/
def exN (j : Nat) : Int := if j = 0 then 0 else if j = 1 then 1 else if j = 2 then -1 else if j = 3 then 12 else if j = 4 then 3 else -9223372036854775808
theorem exN_i (j : Nat) : -9223372036854775808 ≤ exN j ∧ exN j ≤ 9223372036854775807 := by
  unfold exN
  repeat' split
  all_goals exact ⟨by decide, by decide⟩
theorem exNum (b n p : Nat) (sl : Value) (w : World) (h : Rd w b sl n p) (hp : p ≤ 800000) :
    Calls Tryd.prog 15 #[.pointer (some ⟨b, 0, none⟩), .slice (some ⟨w.heap.size, 0, none⟩) 6 6] (w.alloc (.cells #[.int .i64 0, .int .i64 1, .int .i64 (-1), .int .i64 12, .int .i64 3, .int .i64 (-9223372036854775808)] 3)) fun e w' =>
      (∃ x : Int, -9223372036854775808 ≤ x ∧ x ≤ 9223372036854775807 ∧ e = .returned (.int .i64 x)) ∧ Picked (w.alloc (.cells #[.int .i64 0, .int .i64 1, .int .i64 (-1), .int .i64 12, .int .i64 3, .int .i64 (-9223372036854775808)] 3)) w' b sl n p := by
  have hlt := h.lt
  refine (num_pk b n p 6 w.heap.size 6 sl exN _ (h.old _) (by omega) (by decide) (by decide) (by omega) ?_).mono ?_
  · intro j hj
    rw [cell_of_row _ _ j _ _ _ (heap_alloc_new w _)]
    obtain rfl | rfl | rfl | rfl | rfl | rfl : j = 0 ∨ j = 1 ∨ j = 2 ∨ j = 3 ∨ j = 4 ∨ j = 5 := by omega
    all_goals rfl
  · rintro e w' ⟨⟨j, hj, rfl⟩, hP⟩
    exact ⟨⟨_, (exN_i j).1, (exN_i j).2, rfl⟩, hP⟩
def ListEnd (w : World) (e : Ending) (w' : World) : Prop := (∃ (xs : List Int) (g cap : Nat), xs.length ≤ 4 ∧ xs.length ≤ cap ∧ I64 xs ∧ e = .returned (.slice (some ⟨g, 0, none⟩) xs.length cap) ∧ Ints w' (some ⟨g, 0, none⟩) xs.length xs) ∧ Below w.heap.size w w'
theorem owned_ints {w : World} {base : Nat} {v : Value} {xs : List Int} (h : w.ownsRow base 3 1 v xs.length (intL xs)) (hne : v ≠ .slice none 0 0) :
    ∃ g cap, v = .slice (some ⟨g, 0, none⟩) xs.length cap ∧ xs.length ≤ cap ∧ Ints w (some ⟨g, 0, none⟩) xs.length xs := by
  rcases h.2 with ⟨rfl, _⟩ | ⟨g, cap, cur, rfl, _, hg, hcap, _⟩
  · exact absurd rfl hne
  · exact ⟨g, cap, rfl, hcap, ints_own rfl h⟩
theorem DrawFormatRanks_at (a : Option Addr) (len cap : Nat) (zs : List Int) (w : World) (h : IsRow .u8 w a len cap zs) :
    Calls Tryd.prog 9 #[.slice a len cap] w (ListEnd w) := by
  obtain ⟨i0, hi, hz0, hz1, hz2⟩ := info_parts int_infoD
  go_enter Tryd.func9, Tryd.ntmps9
  go_wp2_with fail
  refine (l14Open_at a len cap zs w h).mono ?_
  rintro e w1 ⟨rfl, ⟨sl, n, H⟩, hb⟩
  have hlt := H.lt
  have hw0 : (w1.alloc (Obj.cells #[] 3)).ownsRow w1.heap.size 3 1 (.slice (some ⟨w1.heap.size, 0, none⟩) 0 0) 0 [] := World.ownsRow_made w1 #[] 0 (Nat.le_refl _) (by decide) rfl
  have H0 := H.old (Obj.cells #[] 3)
  have hb0 : Below w.heap.size w (w1.alloc (Obj.cells #[] 3)) := below_new hb _
  go_wp2_with fail
  refine (pick_at _ n 0 5 sl _ H0 (by omega) (by decide) (by decide)).mono ?_
  rintro e w2 ⟨⟨m, rfl, hm⟩, hP⟩
  have hown2 := hw0.kept hP.grown (own_ne hw0 hlt)
  have H2 := hP.rd
  have hb2 := hb0.trans (hP.below)
  have hs2 : w1.heap.size ≤ w2.heap.size := by rw [hP.size]; simp
  clear hP H0 hb0 hw0 H
  go_wp2_with fail
  go_loopw [4, 5] (fun v i wr => ∃ (k q : Nat) (xs : List Int), k + xs.length ≤ 4 ∧ i = .int .i64 k ∧ I64 xs ∧ wr.ownsRow w1.heap.size 3 1 v xs.length (intL xs) ∧ v ≠ .slice none 0 0 ∧ q + k ≤ 10 ∧ Rd wr w.heap.size sl n q ∧ Below w.heap.size w wr ∧ w1.heap.size ≤ wr.heap.size) (fun _ i _ => (intOf i).toNat)
  case atStart => exact ⟨m, 0 + 1, [], by simp; omega, rfl, (fun x hx => by cases hx), hown2, by simp, by omega, H2, hb2, hs2⟩
  case round =>
    clear hown2 H2 hb2 hs2
    obtain ⟨k, q, xs, hk, rfl, hI, hown, hne, hq, H, hb3, hs⟩ := hrel
    by_cases hk0 : 0 < k
    · obtain ⟨k', rfl⟩ : ∃ k', k = k' + 1 := ⟨k - 1, by omega⟩
      have hl4 : xs.length ≤ 3 := by omega
      go_wp2_with fail
      refine (exNum _ n q sl wr H (by omega)).mono ?_
      rintro e w3 ⟨⟨y, hy0, hy1, rfl⟩, hP⟩
      have hown3 := (hown.alloc _).kept hP.grown (own_ne hown hlt)
      have H3 := hP.rd
      have hb4 : Below w.heap.size w w3 := (below_new hb3 _).trans hP.below
      have hs3 : w1.heap.size ≤ w3.heap.size := by rw [hP.size]; simp; omega
      clear hP H hb3 hs hown
      have hI2 : I64 (xs ++ [y]) := fun z hz => by
        rw [List.mem_append] at hz
        rcases hz with hz | hz
        · exact hI z hz
        · simp at hz; subst hz; exact ⟨hy0, hy1⟩
      have HL : Hid (intL xs ++ [.int .i64 y] = intL (xs ++ [y])) := by show _ = _; unfold intL; rw [List.map_append]; rfl
      have HN : Hid ((xs ++ [y]).length = xs.length + 1) := by show _ = _; simp
      go_wp2_with (first
        | (at_builtin; refine wpList_append_own _ rfl _ _ _ rfl w1.heap.size 3 i0 (.int .i64 0) 1 8 (by kernel_rfl) hi hz0 hz1 hz2 rfl (by decide) _ _ _ rfl (hown3.alloc _) ⟨w3.heap.size, 0, none⟩ 1 1 [.int .i64 y] rfl rfl ?c1 ?c2 ?c3 ?c4 ?c5 ?_)
        | go_in)
      case c1 =>
        intro j x hj
        match j, hj with
        | 0, hj => simp at hj; subst hj; simp [Addr.add]
      case c2 => intro x hx; simp at hx; subst hx; rfl
      case c3 => unfold maxLen; omega
      case c4 => omega
      case c5 => simp; omega
      intro v' w4 hown' hgrow hnil
      have hbw : Below w.heap.size w3 w4 := ((Below.refl w.heap.size w3).alloc (by have := H3.lt; omega) _).grown hgrow (by have := H3.lt; simp; omega) (fun k hk => by have := (hown3.lt k hk).1; omega)
      have H4 : Rd w4 w.heap.size sl n (q + 1) := H3.keep hbw ((hgrow.block w.heap.size (by have := H3.lt; simp; omega) (fun e => by have := (hown3.lt _ e.symm).1; omega)).trans (Below.heap_alloc w3 _ _ H3.lt))
      have hb5 := hb4.trans hbw
      have hs4 : w1.heap.size ≤ w4.heap.size := by have := hgrow.size; simp at this; omega
      rw [HL.out, ← HN.out] at hown'
      go_wp2_with fail
      refine ⟨⟨k', q + 1, xs ++ [y], by rw [HN.out]; omega, by go_num, hI2, hown', by simpa using hnil, by omega, H4, hb5, hs4⟩, by simp [intOf]⟩
    · obtain rfl : k = 0 := by omega
      obtain ⟨g, cap2, rfl, hcap, hints⟩ := owned_ints hown hne
      go_wp2_with fail
      go_ret
      exact ⟨⟨xs, g, cap2, by omega, hcap, hI, rfl, hints⟩, hb3⟩
end Go.Proofs.YtaeibhpkcikaaaaDoor
