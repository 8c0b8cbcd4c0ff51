/- Contracts: the drawing of transformers. -/
import Derived.Test.YtaeibhpkcikaaaaGreatDoorDraw
import Derived.Test.YtaeibhpkcikaaaaGreatDoorSpF
import Derived.Deep.RegionWith
/- Draw2 -/
namespace Go.Proofs.YtaeibhpkcikaaaaGreatDoor
set_option linter.unusedVariables false
set_option linter.unusedSimpArgs false
open Go.RowKit Go.Shelf
set_option maxRecDepth 100000
set_option maxHeartbeats 1000000

theorem spec_l3Assert (x : Nat) (hx : x < 16) (w : World) : Calls Tryz.prog 100 #[.int .i64 x] w fun e w' => e = .returned (.string (txt 16 (assertT x))) ∧ w = w' := by
  go_enter Tryz.func100, Tryz.ntmps100
  go_wp2_with fail
  go_loop [3, 4] (fun o i => ∃ k : Nat, k ≤ 16 ∧ i = .int .i64 k ∧ o = .string (txt k (assertT x))) (fun _ i => 16 - (intOf i).toNat)
  case atStart => exact ⟨0, by omega, rfl, rfl⟩
  case round =>
    obtain ⟨k, hk, rfl, rfl⟩ := hrel
    by_cases hlt : k < 16
    · have hc : C (bits .and .i64 (x : Int) (k : Int)) := C.and ⟨by omega, by omega⟩ ⟨by omega, by omega⟩
      go_wp2_with fail
      refine (spec_l2Digit _ _ hc.1 hc.2).mono ?_
      rintro e w' ⟨rfl, rfl⟩
      go_wp2_with fail
      go_round
      case rel => exact ⟨k + 1, by omega, by go_num, congrArg Value.string (txt_succ k (assertT x))⟩
      case measure => simp [intOf]; omega
    · obtain rfl : k = 16 := by omega
      go_wp2_with fail
      go_ret
      exact ⟨rfl, rfl⟩

/-- a table of conditions has one that holds conditions everywhere -/
theorem cond16 {f : Nat → Int} (h : ∀ k, k < 16 → C (f k)) : ∃ g, Cond g ∧ txt 16 f = txt 16 g :=
  ⟨fun k => if k < 16 then f k else 0, fun k => by
    dsimp only; split
    · exact h k (by assumption)
    · exact zeroC, txt_ext fun k hk => by simp [hk]⟩

theorem Picked.grown {w w' : World} {b n p : Nat} {sl : Value} (h : Picked w w' b sl n p) : w.grownBy w' (some b) :=
  ⟨h.below.os, h.below.tape, h.below.output, by rw [h.size]; exact Nat.le_refl _, fun k _ hne => h.other k (fun e => hne (by rw [e]))⟩
theorem Rd.keep {w w' : World} {b n p : Nat} {sl : Value} (h : Rd w b sl n p) (hb : Below b w w') (e : w'.heap[b]? = w.heap[b]?) : Rd w' b sl n p := ⟨e.trans h.eq, h.bts.keep hb⟩
/-- families as cells -/
def famL (f : Nat → Int) (k : Nat) : List Value := (List.range k).map fun s => .int .i64 (f s)
theorem famL_upd (f : Nat → Int) (k : Nat) (x : Int) : famL f k ++ [.int .i64 x] = famL (upd f k x) (k + 1) := by
  simp only [famL, List.range_succ, List.map_append, List.map_cons, List.map_nil, upd_same]
  congr 1
  exact List.map_congr_left fun s hs => by rw [upd_other _ _ _ _ (by have := List.mem_range.1 hs; omega)]
theorem famL_slice {w : World} {base : Nat} {e : TypeId} {v : Value} {n : Nat} {f : Nat → Int} (h : w.ownsRow base e 1 v n (famL f n)) (hne : v ≠ .slice none 0 0) :
    ∃ g cap, v = .slice (some ⟨g, 0, none⟩) n cap ∧ ∀ s, s < n → w.cell? ⟨g, s, none⟩ = some (.int .i64 (f s)) := by
  rcases h.2 with ⟨rfl, _⟩ | ⟨g, cap, cur, rfl, _⟩
  · exact absurd rfl hne
  · refine ⟨g, cap, rfl, fun s hs => ?_⟩
    have h1 := World.ownsRow.cells h (g := g) rfl s (.int .i64 (f s)) (by simp [famL, hs])
    have h2 : (⟨g, 0, none⟩ : Addr).add s = ⟨g, s, none⟩ := by unfold Addr.add; split <;> simp_all
    rwa [h2] at h1
theorem fit0 : Fit 16 0 := ⟨by decide, by decide⟩
theorem own_ne {w : World} {base b : Nat} {e : TypeId} {v : Value} {n : Nat} {xs : List Value} (h : w.ownsRow base e 1 v n xs) (hb : b < base) : v.ownBlock = none ∨ v.ownBlock ≠ some b :=
  .inr fun k => by have := (h.lt b k).1; omega
theorem fit_upd {f : Nat → Int} (hf : ∀ s, Fit 16 (f s)) (k : Nat) {x : Int} (hx : Fit 16 x) : ∀ s, Fit 16 (upd f k x s) := fun s => by
  unfold upd; split
  · exact hx
  · exact hf s

end Go.Proofs.YtaeibhpkcikaaaaGreatDoor

/- Draw3 -/
namespace Go.Proofs.YtaeibhpkcikaaaaGreatDoor
set_option linter.unusedVariables false
set_option linter.unusedSimpArgs false
open Go.RowKit Go.Shelf
set_option maxRecDepth 100000
set_option maxHeartbeats 1000000

theorem num_at (b n p m g cap : Nat) (sl : Value) (z : Nat → Int) (w : World) (h : Rd w b sl n p) (hp : p ≤ 900000) (hm : 1 ≤ m) (hm2 : m ≤ 100) (hg : g ≠ b) (hz : ∀ j, j < m → w.cell? ⟨g, j, none⟩ = some (.int .i64 (z j))) :
    Calls Tryz.prog 69 #[.pointer (some ⟨b, 0, none⟩), .slice (some ⟨g, 0, none⟩) m cap] w fun e w' => (∃ j, j < m ∧ e = .returned (.int .i64 (z j))) ∧ ∃ q, q ≤ p + 1 ∧ Rd w' b sl n q ∧ Below b w w' := by
  go_enter Tryz.func69, Tryz.ntmps69
  go_wp2_with fail
  refine (pick_at b n p m sl w h (by omega) hm (by omega)).mono ?_
  rintro e w1 ⟨⟨v, rfl, hv⟩, hP⟩
  have h1 : w1.cell? ⟨g, v, none⟩ = some (.int .i64 (z v)) := (World.cell?_of_block (hP.other g hg)).trans (hz v hv)
  have hv2 : (v : Int) < m := by omega
  go_wp2_with fail
  go_ret
  exact ⟨⟨v, hv, rfl⟩, p + 1, by omega, hP.rd, hP.below⟩

theorem of_at (b n p m g cap : Nat) (sl : Value) (z : Nat → ByteArray) (w : World) (h : Rd w b sl n p) (hp : p ≤ 900000) (hm : 1 ≤ m) (hm2 : m ≤ 100) (hg : g ≠ b) (hz : ∀ j, j < m → w.cell? ⟨g, j, none⟩ = some (.string (z j))) :
    Calls Tryz.prog 36 #[.pointer (some ⟨b, 0, none⟩), .slice (some ⟨g, 0, none⟩) m cap] w fun e w' => (∃ j, j < m ∧ e = .returned (.string (z j))) ∧ Picked w w' b sl n p := by
  go_enter Tryz.func36, Tryz.ntmps36
  go_wp2_with fail
  refine (pick_at b n p m sl w h (by omega) hm (by omega)).mono ?_
  rintro e w1 ⟨⟨v, rfl, hv⟩, hP⟩
  have h1 : w1.cell? ⟨g, v, none⟩ = some (.string (z v)) := (World.cell?_of_block (hP.other g hg)).trans (hz v hv)
  have hv2 : (v : Int) < m := by omega
  go_wp2_with fail
  go_ret
  exact ⟨⟨v, hv, rfl⟩, hP⟩

/-- the numbers of which a bad condition is taken -/
def badC (j : Nat) : Int := if j = 0 then -1 else if j = 1 then 16 else 9223372036854775807
theorem badC_le (j : Nat) : -1 ≤ badC j ∧ badC j ≤ 9223372036854775807 := by unfold badC; split <;> (try split) <;> omega

theorem l1Some_at (b n p : Nat) (sl : Value) (w : World) (h : Rd w b sl n p) (hp : p ≤ 700000) :
    Calls Tryz.prog 35 #[.pointer (some ⟨b, 0, none⟩)] w fun e w' => (∃ x : Int, -1 ≤ x ∧ x ≤ 9223372036854775807 ∧ e = .returned (.int .i64 x)) ∧ ∃ q, q ≤ p + 2 ∧ Rd w' b sl n q ∧ Below b w w' := by
  go_enter Tryz.func35, Tryz.ntmps35
  go_wp2_with fail
  refine (pick_at b n p 24 sl w h (by omega) (by decide) (by decide)).mono ?_
  rintro e w1 ⟨⟨v, rfl, hv⟩, hP⟩
  have H1 := hP.rd
  have hb1 := hP.below
  clear h hP
  obtain h2 | h2 : v = 0 ∨ 1 ≤ v := by omega
  · subst h2
    go_wp2_with fail
    have hbb := H1.lt
    have hb0 : Below b w1 (w1.alloc (Obj.cells #[.int .i64 (-1), .int .i64 16, .int .i64 9223372036854775807] 3)) := (Below.refl b w1).alloc (by omega) _
    have H2 : Rd (w1.alloc (Obj.cells #[.int .i64 (-1), .int .i64 16, .int .i64 9223372036854775807] 3)) b sl n (0 + p + 1) := by
      rw [Nat.zero_add]; exact H1.keep hb0 (Below.heap_alloc w1 _ b hbb)
    have hcell : ∀ j, j < 3 → (w1.alloc (Obj.cells #[.int .i64 (-1), .int .i64 16, .int .i64 9223372036854775807] 3)).cell? ⟨w1.heap.size, j, none⟩ = some (.int .i64 (badC j)) := by
      intro j hj
      rw [cell_of_row _ _ j _ _ _ (heap_alloc_new w1 _)]
      obtain rfl | rfl | rfl : j = 0 ∨ j = 1 ∨ j = 2 := by omega
      all_goals rfl
    refine (num_at b n (0 + p + 1) 3 w1.heap.size 3 sl _ _ H2 (by omega) (by decide) (by decide) (by omega) hcell).mono ?_
    rintro e w2 ⟨⟨j, hj, rfl⟩, q, hq, H3, hb3⟩
    go_wp2_with fail
    go_ret
    exact ⟨⟨_, (badC_le j).1, (badC_le j).2, rfl⟩, q, by omega, H3, (hb1.trans hb0).trans hb3⟩
  · have e0 : ((v : Int) == 0) = false := by rw [beq_eq_false_iff_ne]; omega
    go_wp2_with fail
    refine (pick_at b n (p + 1) 16 sl _ H1 (by omega) (by decide) (by decide)).mono ?_
    rintro e w2 ⟨⟨x, rfl, hx⟩, hP⟩
    have H2 := hP.rd
    have hb2 := hP.below
    clear hP
    go_wp2_with fail
    go_ret
    exact ⟨⟨x, by omega, by omega, rfl⟩, p + 1 + 1, by omega, H2, hb1.trans hb2⟩
end Go.Proofs.YtaeibhpkcikaaaaGreatDoor

/- Draw4 -/
namespace Go.Proofs.YtaeibhpkcikaaaaGreatDoor
set_option linter.unusedVariables false
set_option linter.unusedSimpArgs false
open Go.RowKit Go.Shelf
set_option maxRecDepth 100000
set_option maxHeartbeats 1000000

theorem Rd.drew {w : World} {b n p : Nat} {sl : Value} (h : Rd w b sl n p) : Rd w.drew b sl n p := ⟨h.eq, h.bts.keep (Below.refl _ _).drew⟩
theorem Rd.old {w : World} {b n p : Nat} {sl : Value} (h : Rd w b sl n p) (o : Obj) : Rd (w.alloc o) b sl n p :=
  h.keep ((Below.refl b w).alloc (Nat.le_of_lt h.lt) o) (Below.heap_alloc w o b h.lt)

theorem of4_at (b n p : Nat) (sl : Value) (w : World) (z0 z1 z2 z3 : ByteArray) (h : Rd w b sl n p) (hp : p ≤ 800000) (h0 : z0.size = 1) (h1 : z1.size = 1) (h2 : z2.size = 1) (h3 : z3.size = 1) :
    Calls Tryz.prog 36 #[.pointer (some ⟨b, 0, none⟩), .slice (some ⟨w.heap.size, 0, none⟩) 4 4] (w.alloc (.cells #[.string z0, .string z1, .string z2, .string z3] 9)) fun e w' =>
      (∃ s : ByteArray, s.size = 1 ∧ e = .returned (.string s)) ∧ Rd w' b sl n (p + 1) ∧ Below b w w' := by
  have hlt := h.lt
  refine (of_at b n p 4 w.heap.size 4 sl (fun j => if j = 0 then z0 else if j = 1 then z1 else if j = 2 then z2 else z3) _ (h.old _) (by omega) (by decide) (by decide) (by omega) ?_).mono ?_
  · intro j hj
    rw [cell_of_row _ _ j _ _ _ (heap_alloc_new w _)]
    obtain rfl | rfl | rfl | rfl : j = 0 ∨ j = 1 ∨ j = 2 ∨ j = 3 := by omega
    all_goals rfl
  · rintro e w' ⟨⟨j, hj, rfl⟩, hP⟩
    refine ⟨⟨_, ?_, rfl⟩, hP.rd, ((Below.refl b w).alloc (Nat.le_of_lt hlt) _).trans hP.below⟩
    obtain rfl | rfl | rfl | rfl : j = 0 ∨ j = 1 ∨ j = 2 ∨ j = 3 := by omega
    all_goals (simp; assumption)

/-- a source is made of the bytes that came in -/
theorem l14Open_at (a : Option Addr) (len cap : Nat) (zs : List Int) (w : World) (h : IsRow .u8 w a len cap zs) :
    Calls Tryz.prog 30 #[.slice a len cap] w fun e w' => e = .returned (.pointer (some ⟨w.heap.size, 0, none⟩)) ∧ (∃ sl n, Rd w' w.heap.size sl n 0) ∧ Below w.heap.size w w' := by
  have hb : ∀ n sl, Bts w w.heap.size n sl → Rd (w.alloc (.cells #[sl, .int .i64 0] 98)) w.heap.size sl n 0 := fun n sl hB =>
    ⟨heap_alloc_new w _, hB.keep ((Below.refl _ _).alloc (Nat.le_refl _) _)⟩
  rcases h with ⟨rfl, rfl, rfl, rfl⟩ | ⟨x, rfl, hl, hm, hz, hc, hw⟩
  · go_enter Tryz.func30, Tryz.ntmps30
    go_wp2_with fail
    go_ret
    exact ⟨rfl, ⟨_, 0, hb 0 _ (.inl ⟨rfl, _, _, rfl⟩)⟩, below_new (Below.refl _ _) _⟩
  · have HB : ∀ n, n ≤ len → n ≤ 2000 → Bts w w.heap.size n (.slice (some x) n cap) := fun n hn hn2 => by
      rcases Nat.eq_zero_or_pos n with rfl | hpos
      · exact .inl ⟨rfl, _, _, rfl⟩
      · have h0 := hc 0 (by omega)
        have hx : x.block < w.heap.size := by
          have := block_lt_of_cell h0
          unfold Addr.add at this; split at this <;> exact this
        refine .inr ⟨hpos, hn2, x, cap, rfl, hx, fun j => zs.getD j 0, fun j hj => ⟨hc j (by omega), ?_⟩⟩
        have hmem : zs.getD j 0 ∈ zs := by
          rw [List.getD_eq_getElem?_getD, List.getElem?_eq_getElem (by omega)]; exact List.getElem_mem _
        have h9 := hw _ hmem
        show 0 ≤ zs.getD j 0 ∧ zs.getD j 0 ≤ 255
        generalize zs.getD j 0 = y at h9
        simp [Lit.wf, IntKind.min, IntKind.max, IntKind.signed, IntKind.bits] at h9
        omega
    clear hc hw
    by_cases h2 : 2000 < len
    · have hcap : 2000 ≤ cap := by omega
      go_enter Tryz.func30, Tryz.ntmps30
      go_wp2_with fail
      go_ret
      exact ⟨rfl, ⟨_, 2000, hb 2000 _ (HB 2000 (by omega) (by omega))⟩, below_new (Below.refl _ _) _⟩
    · go_enter Tryz.func30, Tryz.ntmps30
      go_wp2_with fail
      go_ret
      exact ⟨rfl, ⟨_, len, hb len _ (HB len (by omega) (by omega))⟩, below_new (Below.refl _ _) _⟩

end Go.Proofs.YtaeibhpkcikaaaaGreatDoor
