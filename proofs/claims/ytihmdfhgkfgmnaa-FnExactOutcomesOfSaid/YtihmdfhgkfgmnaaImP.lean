/- Plays: the program's places. -/
import Derived.Test.YtihmdfhgkfgmnaaIm5c
import Derived.Test.YtihmdfhgkfgmnaaBlk
namespace Go.Proofs.Ytihmdfhgkfgmnaa
set_option linter.unusedVariables false
set_option linter.unusedSimpArgs false
open Go.RowKit Go.Shelf
set_option maxRecDepth 100000
set_option maxHeartbeats 1000000

theorem pl_u : ∃ fs, Try.prog.underlying 69 = some (.struct fs) := ⟨_, Try.underlying69⟩
theorem pl_i : (Try.prog.info? 69).map (·.size) = some 3 := by kernel_rfl
/-- the statements to be executed, the next one last -/
structure Ptrs (w : World) (g : Nat) (bs : List Nat) : Prop where
  lies : ∀ j b, bs.reverse[j]? = some b → w.cell? ⟨g, j, none⟩ = some (ptr b)
theorem Ptrs.grown {w w' : World} {g : Nat} {bs : List Nat} (h : Ptrs w g bs) (hb : Below w.heap.size w w') : Ptrs w' g bs := ⟨fun j b hj => cell_grown (h.lies j b hj) hb⟩
theorem Ptrs.drew {w : World} {g : Nat} {bs : List Nat} (h : Ptrs w g bs) : Ptrs w.drew g bs := ⟨fun j b hj => h.lies j b hj⟩
theorem Ptrs.last {w : World} {g b : Nat} {bs : List Nat} (h : Ptrs w g (b :: bs)) : w.cell? ⟨g, bs.length, none⟩ = some (ptr b) := h.lies bs.length b (by simp)
theorem Ptrs.rest {w : World} {g b : Nat} {bs : List Nat} (h : Ptrs w g (b :: bs)) : Ptrs w g bs := ⟨fun j x hj => h.lies j x (by
  rw [List.reverse_cons, List.getElem?_append_left]
  · exact hj
  · exact (List.getElem?_eq_some_iff.1 hj).1)⟩
theorem owned_ptrs {w : World} {base n : Nat} {e : TypeId} {v : Value} {bs : List Nat} (h : w.ownsRow base e 1 v n (bs.reverse.map ptr)) (hne : v ≠ .slice none 0 0) :
    ∃ g cap, v = .slice (some ⟨g, 0, none⟩) n cap ∧ n ≤ cap ∧ base ≤ g ∧ Ptrs w g bs := by
  rcases h.2 with ⟨rfl, _⟩ | ⟨g, cap, cur, rfl, hg, _, hle, _⟩
  · exact absurd rfl hne
  · refine ⟨g, cap, rfl, hle, hg, ⟨fun j b hj => ?_⟩⟩
    have h1 := World.ownsRow.cells h (g := g) rfl j (ptr b) (by rw [List.getElem?_map, hj]; rfl)
    have h2 : (⟨g, 0, none⟩ : Addr).add j = ⟨g, j, none⟩ := by unfold Addr.add; split <;> simp_all
    rwa [h2] at h1
theorem drop_snoc {bs ls : List Nat} {m b : Nat} (h : ls[m]? = some b) : (bs.reverse ++ (ls.drop (m + 1)).reverse) ++ [b] = bs.reverse ++ (ls.drop m).reverse := by
  obtain ⟨hm, rfl⟩ := List.getElem?_eq_some_iff.1 h
  rw [List.drop_eq_getElem_cons hm, List.reverse_cons, List.append_assoc]

/-- a place with the next statement replaced by others -/
theorem impl_put (s0 s : Int) (n : Nat) (hn : n ≤ 1000) (b0 : Nat) (bs ls : List Nat) (g cap : Nat) (p : Option Addr) (cap' : Nat) (w : World) (hP : Ptrs w g (b0 :: bs)) (hlen : bs.length ≤ 100000) (hcap : bs.length + 1 ≤ cap)
    (hL : ∀ j b, ls[j]? = some b → ∃ g', p = some ⟨g', 0, none⟩ ∧ w.cell? ⟨g', j, none⟩ = some (ptr b)) (hls : ls.length ≤ 2) :
    Calls Try.prog 144 #[.agg #[.int .i64 s0, .slice (some ⟨g, 0, none⟩) (bs.length + 1) cap, .int .i64 n], .int .i64 s, .slice p ls.length cap'] w fun e w' =>
      ∃ g2 cap2, e = .returned (.agg #[.int .i64 s, .slice (some ⟨g2, 0, none⟩) (ls ++ bs).length cap2, .int .i64 (n + 1 : Nat)]) ∧ Ptrs w' g2 (ls ++ bs) ∧ (ls ++ bs).length ≤ cap2 ∧ Below w.heap.size w w' := by
  obtain ⟨i0, hi, hz0, hz1, hz2⟩ := info_parts ptr_info3
  obtain ⟨fs, hu⟩ := pl_u
  have hr := hP.rest
  have hb0 := below_new (below_new (Below.refl w.heap.size w) (Obj.cells #[.int .i64 s0, .slice (some ⟨g, 0, none⟩) (bs.length + 1) cap, .int .i64 n] 69)) (Obj.cells #[.int .i64 0, .slice none 0 0, .int .i64 0] 69)
  have B2 := (Blk.new w 69 #[.int .i64 s0, .slice (some ⟨g, 0, none⟩) (bs.length + 1) cap, .int .i64 n]).old (Obj.cells #[.int .i64 0, .slice none 0 0, .int .i64 0] 69)
  have B4 := Blk.newAt (w.alloc (Obj.cells #[.int .i64 s0, .slice (some ⟨g, 0, none⟩) (bs.length + 1) cap, .int .i64 n] 69)) 69 #[.int .i64 0, .slice none 0 0, .int .i64 0] (w.heap.size + 1) (by simp)
  have hsA : ((w.alloc (Obj.cells #[.int .i64 s0, .slice (some ⟨g, 0, none⟩) (bs.length + 1) cap, .int .i64 n] 69)).alloc (Obj.cells #[.int .i64 0, .slice none 0 0, .int .i64 0] 69)).heap.size = w.heap.size + 1 + 1 := by simp
  have hw0 : (((w.alloc (Obj.cells #[.int .i64 s0, .slice (some ⟨g, 0, none⟩) (bs.length + 1) cap, .int .i64 n] 69)).alloc (Obj.cells #[.int .i64 0, .slice none 0 0, .int .i64 0] 69)).alloc (Obj.cells #[] 42)).ownsRow (w.heap.size + 1 + 1) 42 1 (.slice (some ⟨w.heap.size + 1 + 1, 0, none⟩) 0 0) 0 [] := by
    rw [← hsA]; exact World.ownsRow_made _ #[] _ (Nat.le_refl _) (by decide) rfl
  have HLEN : Hid ((ls ++ bs).length = bs.length + ls.length) := by show _ = _; rw [List.length_append]; omega
  generalize hN : bs.length = k at *
  have HN := Lib.hid hN
  clear hN
  go_enter Try.func144, Try.ntmps144
  go_wp2_with (first
    | (at_builtin; refine wpList_append_own _ rfl _ _ _ rfl (w.heap.size + 1 + 1) 42 i0 (.pointer none) 1 8 (by kernel_rfl) hi hz0 hz1 hz2 rfl (by decide) _ _ _ rfl hw0 ⟨g, 0, none⟩ k cap (bs.reverse.map ptr) rfl ?c0 ?c1 ?c2 ?c3 ?c4 ?c5 ?_)
    | go_in)
  case c0 => simp [HN.out]
  case c1 =>
    intro j y hj
    obtain ⟨x, hx, rfl⟩ : ∃ x, bs.reverse[j]? = some x ∧ y = ptr x := by
      simp only [List.getElem?_map, Option.map_eq_some_iff] at hj
      obtain ⟨x, h1, h2⟩ := hj
      exact ⟨x, h1, h2.symm⟩
    have h3 := cell_grown (hr.lies j x hx) (below_new hb0 (Obj.cells #[] 42))
    have h2 : (⟨g, 0, none⟩ : Addr).add j = ⟨g, j, none⟩ := by unfold Addr.add; split <;> simp_all
    rw [h2]; exact h3
  case c2 =>
    intro y hy
    simp only [List.mem_map] at hy
    obtain ⟨x, _, rfl⟩ := hy
    rfl
  case c3 => unfold maxLen; omega
  case c4 => omega
  case c5 => simp
  intro v1 w1 hown1 hgrow1 hnil1
  have hne1 : v1 ≠ .slice none 0 0 := hnil1
  have hb1 : Below (w.heap.size + 1 + 1) ((w.alloc (Obj.cells #[.int .i64 s0, .slice (some ⟨g, 0, none⟩) (k + 1) cap, .int .i64 n] 69)).alloc (Obj.cells #[.int .i64 0, .slice none 0 0, .int .i64 0] 69)) w1 := by
    have h := below_new (Below.refl _ ((w.alloc (Obj.cells #[.int .i64 s0, .slice (some ⟨g, 0, none⟩) (k + 1) cap, .int .i64 n] 69)).alloc (Obj.cells #[.int .i64 0, .slice none 0 0, .int .i64 0] 69))) (Obj.cells #[] 42)
    rw [hsA] at h
    exact h.grown hgrow1 (by simp) (fun k hk => (hw0.lt k hk).1)
  have hsz1 := hb1.size
  rw [hsA] at hsz1
  have B21 := B2.below hb1 (by omega)
  have B41 := B4.below hb1 (by omega)
  have hbw1 := hb0.trans (hb1.mono (by omega))
  have hown1' : w1.ownsRow (w.heap.size + 1 + 1) 42 1 v1 (k + (ls.length - ls.length)) ((bs.reverse ++ (ls.drop ls.length).reverse).map ptr) := by
    have h := hown1
    rw [← List.map_reverse] at h
    have e1 : k + (ls.length - ls.length) = k := by omega
    have e2 : bs.reverse ++ (ls.drop ls.length).reverse = bs.reverse := by simp
    rw [e1, e2]
    exact h
  clear hown1 hgrow1 hnil1 hw0 hsA hb1 B2 B4 hP hr hb0
  go_wp2_with fail
  go_loopw [7, 8] (fun l i wr => ∃ m : Nat, m ≤ ls.length ∧ i = .int .i64 ((m : Int) - 1) ∧ l ≠ .slice none 0 0 ∧ wr.ownsRow (w.heap.size + 1 + 1) 42 1 l (k + (ls.length - m)) ((bs.reverse ++ (ls.drop m).reverse).map ptr) ∧ Blk wr w.heap.size 69 #[.int .i64 s0, .slice (some ⟨g, 0, none⟩) (k + 1) cap, .int .i64 n] ∧ Blk wr (w.heap.size + 1) 69 #[.int .i64 0, .slice none 0 0, .int .i64 0] ∧ Below w.heap.size w wr) (fun _ i _ => (intOf i + 1).toNat)
  case atStart => exact ⟨ls.length, Nat.le_refl _, rfl, hne1, hown1', B21, B41, hbw1⟩
  case round =>
    clear hown1' B21 B41 hbw1 hne1
    obtain ⟨m, hm, rfl, hne, hown, B2, B4, hb⟩ := hrel
    rcases Nat.eq_zero_or_pos m with rfl | hpos
    · have e1 : ((0 : Nat) : Int) - 1 = -1 := rfl
      rw [e1]
      clear e1
      have e2 : k + (ls.length - 0) = (ls ++ bs).length := by rw [HLEN.out]; omega
      have e3 : bs.reverse ++ (ls.drop 0).reverse = (ls ++ bs).reverse := by simp
      rw [e2, e3] at hown
      clear e2 e3
      obtain ⟨g2, cap2, rfl, hle2, hg2, hP2⟩ := owned_ptrs hown hne
      generalize hkk : (ls ++ bs).length = kk at *
      have HKK := Lib.hid hkk
      clear hkk
      have hc2 := B2.cell3.2.2
      have hn1 : (n : Int) + 1 = ((n + 1 : Nat) : Int) := by omega
      have HN1 := Lib.hid hn1
      clear hn1
      go_wp2_with (refine wp_store_Blk rfl _ _ _ rfl (w.heap.size + 1) rfl rfl B4 pl_i rfl (by simp [Value.oneCell']) ?_)
      refine ret_Blk rfl (w.heap.size + 1) rfl (B4.setRow _) hu rfl pl_i rfl ⟨g2, cap2, by rw [HN1.out, HKK.out], ⟨fun j b hj => ?_⟩, by rw [HKK.out]; exact hle2, below_setRow hb (by omega) _⟩
      exact cell_kept (hP2.lies j b hj) (setRow_other _ _ _ _ (by omega))
    · obtain ⟨j, rfl⟩ : ∃ j, m = j + 1 := ⟨m - 1, by omega⟩
      have e1 : ((j + 1 : Nat) : Int) - 1 = (j : Int) := by omega
      rw [e1]
      clear e1
      have hjl : j < ls.length := by omega
      obtain ⟨b, hbj⟩ : ∃ b, ls[j]? = some b := ⟨ls[j], by simp [hjl]⟩
      obtain ⟨g', rfl, hc⟩ := hL j b hbj
      have hcj : wr.cell? ⟨g', j, none⟩ = some (.pointer (some ⟨b, 0, none⟩)) := cell_grown hc hb
      have hji : (j : Int) < (ls.length : Nat) := by omega
      have HB := Lib.hid hbj
      clear hbj hc
      go_wp2_with (first
        | (at_builtin; refine wpList_append_own _ rfl _ _ _ rfl (w.heap.size + 1 + 1) 42 i0 (.pointer none) 1 8 (by kernel_rfl) hi hz0 hz1 hz2 rfl (by decide) _ _ _ rfl (hown.alloc _) ⟨wr.heap.size, 0, none⟩ 1 1 [.pointer (some ⟨b, 0, none⟩)] rfl rfl ?d1 ?d2 ?d3 ?d4 ?d5 ?_)
        | go_in)
      case d1 =>
        intro i x hi
        match i, hi with
        | 0, hi => simp at hi; subst hi; simp [Addr.add]
      case d2 => intro x hx; simp at hx; subst hx; rfl
      case d3 => unfold maxLen; omega
      case d4 => omega
      case d5 => have := B4.lt; simp; omega
      intro v2 w2 hown2 hgrow2 hnil2
      have hne2 : v2 ≠ .slice none 0 0 := hnil2
      have hb2 : Below (w.heap.size + 1 + 1) wr w2 := by
        have h := (Below.refl (w.heap.size + 1 + 1) wr).alloc (by have := B4.lt; omega) (Obj.cells #[.pointer (some ⟨b, 0, none⟩)] 42)
        exact h.grown hgrow2 (by have := B4.lt; simp; omega) (fun q hq => (hown.lt q hq).1)
      go_wp2_with fail
      go_roundw
      case rel =>
        refine ⟨j, by omega, rfl, hne2, ?_, B2.below hb2 (by omega), B4.below hb2 (by omega), hb.trans (hb2.mono (by omega))⟩
        have e5 : k + (ls.length - (j + 1)) + 1 = k + (ls.length - j) := by omega
        rw [e5] at hown2
        rw [← drop_snoc HB.out, List.map_append]
        simpa [ptr] using hown2
      case measure => simp [intOf]
end Go.Proofs.Ytihmdfhgkfgmnaa
