/- Plays: the program's places. -/
import Derived.Test.YtaeibhpkcikaaaaGreatDoorIm5c
import Derived.Test.YtaeibhpkcikaaaaGreatDoorGK
import Derived.Test.YtaeibhpkcikaaaaGreatDoorImC
import Derived.Test.YtaeibhpkcikaaaaGreatDoorGM
/- ImP -/
namespace Go.Proofs.YtaeibhpkcikaaaaGreatDoor
set_option linter.unusedVariables false
set_option linter.unusedSimpArgs false
open Go.RowKit Go.Shelf
set_option maxRecDepth 100000
set_option maxHeartbeats 1000000

theorem pl_u : ∃ fs, Tryz.prog.underlying 50 = some (.struct fs) := ⟨_, Tryz.underlying50⟩
theorem pl_i : (Tryz.prog.info? 50).map (·.size) = some 3 := by kernel_rfl
/-- the statements to be executed, the next one last -/
structure Ptrs (w : World) (g : Nat) (bs : List Nat) : Prop where
  lies : ∀ j b, bs.reverse[j]? = some b → w.cell? ⟨g, j, none⟩ = some (ptr b)
theorem Ptrs.grown {w w' : World} {g : Nat} {bs : List Nat} (h : Ptrs w g bs) (hb : Below w.heap.size w w') : Ptrs w' g bs := ⟨fun j b hj => cell_grown (h.lies j b hj) hb⟩
theorem Ptrs.drew {w : World} {g : Nat} {bs : List Nat} (h : Ptrs w g bs) : Ptrs w.drew g bs := ⟨fun j b hj => h.lies j b hj⟩
theorem Ptrs.last {w : World} {g b : Nat} {bs : List Nat} (h : Ptrs w g (b :: bs)) : w.cell? ⟨g, bs.length, none⟩ = some (ptr b) := h.lies bs.length b (by simp)
theorem Ptrs.rest {w : World} {g b : Nat} {bs : List Nat} (h : Ptrs w g (b :: bs)) : Ptrs w g bs := ⟨fun j x hj => h.lies j x (by
  rw [List.reverse_cons, List.getElem?_append_left]
  · exact hj
  · exact (List.getElem?_eq_some_iff.1 hj).1)⟩
theorem owned_ptrs {w : World} {base n : Nat} {e : TypeId} {v : Value} {bs : List Nat} (h : w.ownsRow base e 1 v n (bs.reverse.map ptr)) (hne : v ≠ .slice none 0 0) :
    ∃ g cap, v = .slice (some ⟨g, 0, none⟩) n cap ∧ n ≤ cap ∧ base ≤ g ∧ Ptrs w g bs := by
  rcases h.2 with ⟨rfl, _⟩ | ⟨g, cap, cur, rfl, hg, _, hle, _⟩
  · exact absurd rfl hne
  · refine ⟨g, cap, rfl, hle, hg, ⟨fun j b hj => ?_⟩⟩
    have h1 := World.ownsRow.cells h (g := g) rfl j (ptr b) (by rw [List.getElem?_map, hj]; rfl)
    have h2 : (⟨g, 0, none⟩ : Addr).add j = ⟨g, j, none⟩ := by unfold Addr.add; split <;> simp_all
    rwa [h2] at h1
theorem drop_snoc {bs ls : List Nat} {m b : Nat} (h : ls[m]? = some b) : (bs.reverse ++ (ls.drop (m + 1)).reverse) ++ [b] = bs.reverse ++ (ls.drop m).reverse := by
  obtain ⟨hm, rfl⟩ := List.getElem?_eq_some_iff.1 h
  rw [List.drop_eq_getElem_cons hm, List.reverse_cons, List.append_assoc]

/-- a place with the next statement replaced by others -/
theorem impl_put (s0 s : Int) (n : Nat) (hn : n ≤ 1000) (b0 : Nat) (bs ls : List Nat) (g cap : Nat) (p : Option Addr) (cap' : Nat) (w : World) (hP : Ptrs w g (b0 :: bs)) (hlen : bs.length ≤ 100000) (hcap : bs.length + 1 ≤ cap)
    (hL : ∀ j b, ls[j]? = some b → ∃ g', p = some ⟨g', 0, none⟩ ∧ w.cell? ⟨g', j, none⟩ = some (ptr b)) (hls : ls.length ≤ 2) :
    Calls Tryz.prog 63 #[.agg #[.int .i64 s0, .slice (some ⟨g, 0, none⟩) (bs.length + 1) cap, .int .i64 n], .int .i64 s, .slice p ls.length cap'] w fun e w' =>
      ∃ g2 cap2, e = .returned (.agg #[.int .i64 s, .slice (some ⟨g2, 0, none⟩) (ls ++ bs).length cap2, .int .i64 (n + 1 : Nat)]) ∧ Ptrs w' g2 (ls ++ bs) ∧ (ls ++ bs).length ≤ cap2 ∧ Below w.heap.size w w' := by
  obtain ⟨i0, hi, hz0, hz1, hz2⟩ := info_parts ptr_info3
  obtain ⟨fs, hu⟩ := pl_u
  have hr := hP.rest
  have hb0 := below_new (below_new (Below.refl w.heap.size w) (Obj.cells #[.int .i64 s0, .slice (some ⟨g, 0, none⟩) (bs.length + 1) cap, .int .i64 n] 50)) (Obj.cells #[.int .i64 0, .slice none 0 0, .int .i64 0] 50)
  have B2 := (Blk.new w 50 #[.int .i64 s0, .slice (some ⟨g, 0, none⟩) (bs.length + 1) cap, .int .i64 n]).old (Obj.cells #[.int .i64 0, .slice none 0 0, .int .i64 0] 50)
  have B4 := Blk.newAt (w.alloc (Obj.cells #[.int .i64 s0, .slice (some ⟨g, 0, none⟩) (bs.length + 1) cap, .int .i64 n] 50)) 50 #[.int .i64 0, .slice none 0 0, .int .i64 0] (w.heap.size + 1) (by simp)
  have hsA : ((w.alloc (Obj.cells #[.int .i64 s0, .slice (some ⟨g, 0, none⟩) (bs.length + 1) cap, .int .i64 n] 50)).alloc (Obj.cells #[.int .i64 0, .slice none 0 0, .int .i64 0] 50)).heap.size = w.heap.size + 1 + 1 := by simp
  have hw0 : (((w.alloc (Obj.cells #[.int .i64 s0, .slice (some ⟨g, 0, none⟩) (bs.length + 1) cap, .int .i64 n] 50)).alloc (Obj.cells #[.int .i64 0, .slice none 0 0, .int .i64 0] 50)).alloc (Obj.cells #[] 44)).ownsRow (w.heap.size + 1 + 1) 44 1 (.slice (some ⟨w.heap.size + 1 + 1, 0, none⟩) 0 0) 0 [] := by
    rw [← hsA]; exact World.ownsRow_made _ #[] _ (Nat.le_refl _) (by decide) rfl
  have HLEN : Hid ((ls ++ bs).length = bs.length + ls.length) := by show _ = _; rw [List.length_append]; omega
  generalize hN : bs.length = k at *
  have HN := Lib.hid hN
  clear hN
  go_enter Tryz.func63, Tryz.ntmps63
  go_wp2_with (first
    | (at_builtin; refine wpList_append_own _ rfl _ _ _ rfl (w.heap.size + 1 + 1) 44 i0 (.pointer none) 1 8 (by kernel_rfl) hi hz0 hz1 hz2 rfl (by decide) _ _ _ rfl hw0 ⟨g, 0, none⟩ k cap (bs.reverse.map ptr) rfl ?c0 ?c1 ?c2 ?c3 ?c4 ?c5 ?_)
    | go_in)
  case c0 => simp [HN.out]
  case c1 =>
    intro j y hj
    obtain ⟨x, hx, rfl⟩ : ∃ x, bs.reverse[j]? = some x ∧ y = ptr x := by
      simp only [List.getElem?_map, Option.map_eq_some_iff] at hj
      obtain ⟨x, h1, h2⟩ := hj
      exact ⟨x, h1, h2.symm⟩
    have h3 := cell_grown (hr.lies j x hx) (below_new hb0 (Obj.cells #[] 44))
    have h2 : (⟨g, 0, none⟩ : Addr).add j = ⟨g, j, none⟩ := by unfold Addr.add; split <;> simp_all
    rw [h2]; exact h3
  case c2 =>
    intro y hy
    simp only [List.mem_map] at hy
    obtain ⟨x, _, rfl⟩ := hy
    rfl
  case c3 => unfold maxLen; omega
  case c4 => omega
  case c5 => simp
  intro v1 w1 hown1 hgrow1 hnil1
  have hne1 : v1 ≠ .slice none 0 0 := hnil1
  have hb1 : Below (w.heap.size + 1 + 1) ((w.alloc (Obj.cells #[.int .i64 s0, .slice (some ⟨g, 0, none⟩) (k + 1) cap, .int .i64 n] 50)).alloc (Obj.cells #[.int .i64 0, .slice none 0 0, .int .i64 0] 50)) w1 := by
    have h := below_new (Below.refl _ ((w.alloc (Obj.cells #[.int .i64 s0, .slice (some ⟨g, 0, none⟩) (k + 1) cap, .int .i64 n] 50)).alloc (Obj.cells #[.int .i64 0, .slice none 0 0, .int .i64 0] 50))) (Obj.cells #[] 44)
    rw [hsA] at h
    exact h.grown hgrow1 (by simp) (fun k hk => (hw0.lt k hk).1)
  have hsz1 := hb1.size
  rw [hsA] at hsz1
  have B21 := B2.below hb1 (by omega)
  have B41 := B4.below hb1 (by omega)
  have hbw1 := hb0.trans (hb1.mono (by omega))
  have hown1' : w1.ownsRow (w.heap.size + 1 + 1) 44 1 v1 (k + (ls.length - ls.length)) ((bs.reverse ++ (ls.drop ls.length).reverse).map ptr) := by
    have h := hown1
    rw [← List.map_reverse] at h
    have e1 : k + (ls.length - ls.length) = k := by omega
    have e2 : bs.reverse ++ (ls.drop ls.length).reverse = bs.reverse := by simp
    rw [e1, e2]
    exact h
  clear hown1 hgrow1 hnil1 hw0 hsA hb1 B2 B4 hP hr hb0
  go_wp2_with fail
  go_loopw [7, 8] (fun l i wr => ∃ m : Nat, m ≤ ls.length ∧ i = .int .i64 ((m : Int) - 1) ∧ l ≠ .slice none 0 0 ∧ wr.ownsRow (w.heap.size + 1 + 1) 44 1 l (k + (ls.length - m)) ((bs.reverse ++ (ls.drop m).reverse).map ptr) ∧ Blk wr w.heap.size 50 #[.int .i64 s0, .slice (some ⟨g, 0, none⟩) (k + 1) cap, .int .i64 n] ∧ Blk wr (w.heap.size + 1) 50 #[.int .i64 0, .slice none 0 0, .int .i64 0] ∧ Below w.heap.size w wr) (fun _ i _ => (intOf i + 1).toNat)
  case atStart => exact ⟨ls.length, Nat.le_refl _, rfl, hne1, hown1', B21, B41, hbw1⟩
  case round =>
    clear hown1' B21 B41 hbw1 hne1
    obtain ⟨m, hm, rfl, hne, hown, B2, B4, hb⟩ := hrel
    rcases Nat.eq_zero_or_pos m with rfl | hpos
    · have e1 : ((0 : Nat) : Int) - 1 = -1 := rfl
      rw [e1]
      clear e1
      have e2 : k + (ls.length - 0) = (ls ++ bs).length := by rw [HLEN.out]; omega
      have e3 : bs.reverse ++ (ls.drop 0).reverse = (ls ++ bs).reverse := by simp
      rw [e2, e3] at hown
      clear e2 e3
      obtain ⟨g2, cap2, rfl, hle2, hg2, hP2⟩ := owned_ptrs hown hne
      generalize hkk : (ls ++ bs).length = kk at *
      have HKK := Lib.hid hkk
      clear hkk
      have hc2 := B2.cell3.2.2
      have hn1 : (n : Int) + 1 = ((n + 1 : Nat) : Int) := by omega
      have HN1 := Lib.hid hn1
      clear hn1
      go_wp2_with (refine wp_store_Blk rfl _ _ _ rfl (w.heap.size + 1) rfl rfl B4 pl_i rfl (by simp [Value.oneCell']) ?_)
      refine ret_Blk rfl (w.heap.size + 1) rfl (B4.setRow _) hu rfl pl_i rfl ⟨g2, cap2, by rw [HN1.out, HKK.out], ⟨fun j b hj => ?_⟩, by rw [HKK.out]; exact hle2, below_setRow hb (by omega) _⟩
      exact cell_kept (hP2.lies j b hj) (setRow_other _ _ _ _ (by omega))
    · obtain ⟨j, rfl⟩ : ∃ j, m = j + 1 := ⟨m - 1, by omega⟩
      have e1 : ((j + 1 : Nat) : Int) - 1 = (j : Int) := by omega
      rw [e1]
      clear e1
      have hjl : j < ls.length := by omega
      obtain ⟨b, hbj⟩ : ∃ b, ls[j]? = some b := ⟨ls[j], by simp [hjl]⟩
      obtain ⟨g', rfl, hc⟩ := hL j b hbj
      have hcj : wr.cell? ⟨g', j, none⟩ = some (.pointer (some ⟨b, 0, none⟩)) := cell_grown hc hb
      have hji : (j : Int) < (ls.length : Nat) := by omega
      have HB := Lib.hid hbj
      clear hbj hc
      go_wp2_with (first
        | (at_builtin; refine wpList_append_own _ rfl _ _ _ rfl (w.heap.size + 1 + 1) 44 i0 (.pointer none) 1 8 (by kernel_rfl) hi hz0 hz1 hz2 rfl (by decide) _ _ _ rfl (hown.alloc _) ⟨wr.heap.size, 0, none⟩ 1 1 [.pointer (some ⟨b, 0, none⟩)] rfl rfl ?d1 ?d2 ?d3 ?d4 ?d5 ?_)
        | go_in)
      case d1 =>
        intro i x hi
        match i, hi with
        | 0, hi => simp at hi; subst hi; simp [Addr.add]
      case d2 => intro x hx; simp at hx; subst hx; rfl
      case d3 => unfold maxLen; omega
      case d4 => omega
      case d5 => have := B4.lt; simp; omega
      intro v2 w2 hown2 hgrow2 hnil2
      have hne2 : v2 ≠ .slice none 0 0 := hnil2
      have hb2 : Below (w.heap.size + 1 + 1) wr w2 := by
        have h := (Below.refl (w.heap.size + 1 + 1) wr).alloc (by have := B4.lt; omega) (Obj.cells #[.pointer (some ⟨b, 0, none⟩)] 44)
        exact h.grown hgrow2 (by have := B4.lt; simp; omega) (fun q hq => (hown.lt q hq).1)
      go_wp2_with fail
      go_roundw
      case rel =>
        refine ⟨j, by omega, rfl, hne2, ?_, B2.below hb2 (by omega), B4.below hb2 (by omega), hb.trans (hb2.mono (by omega))⟩
        have e5 : k + (ls.length - (j + 1)) + 1 = k + (ls.length - j) := by omega
        rw [e5] at hown2
        rw [← drop_snoc HB.out, List.map_append]
        simpa [ptr] using hown2
      case measure => simp [intOf]
end Go.Proofs.YtaeibhpkcikaaaaGreatDoor

/- ImP2 -/
namespace Go.Proofs.YtaeibhpkcikaaaaGreatDoor
set_option linter.unusedVariables false
set_option linter.unusedSimpArgs false
open Go.RowKit Go.Shelf
set_option maxRecDepth 100000
set_option maxHeartbeats 1000000

theorem Trees.append {w : World} {S : Nat → Prop} : ∀ (l : List Ct) (ls : List Nat) (ts : List Ct) (bs : List Nat), Trees w S l ls → Trees w S ts bs → Trees w S (l ++ ts) (ls ++ bs)
  | [], [], _, _, _, h => h
  | _ :: l, _ :: ls, ts, bs, ⟨h, k⟩, h2 => ⟨h, Trees.append l ls ts bs k h2⟩
  | [], _ :: _, _, _, h, _ => h.elim
  | _ :: _, [], _, _, h, _ => h.elim
/-- statements to be executed, in memory -/
def AtP (w : World) (S : Nat → Prop) (ts : List Ct) (g cap : Nat) : Prop := ∃ bs, Ptrs w g bs ∧ Trees w S ts bs ∧ ts.length ≤ cap
theorem AtP.grown {w w' : World} {S : Nat → Prop} {ts : List Ct} {g cap : Nat} (h : AtP w S ts g cap) (hb : Below w.heap.size w w') : AtP w' S ts g cap := by
  obtain ⟨bs, h1, h2, h3⟩ := h
  exact ⟨bs, h1.grown hb, h2.map (fun t b h => Tree.grown hb t b h), h3⟩
theorem AtP.top {w : World} {S : Nat → Prop} {t : Ct} {ts : List Ct} {g cap : Nat} (h : AtP w S (t :: ts) g cap) : ∃ b, w.cell? ⟨g, ts.length, none⟩ = some (ptr b) ∧ Tree w S t b := by
  obtain ⟨bs, h1, h2, h3⟩ := h
  match bs, h1, h2 with
  | b :: bs, h1, h2 => exact ⟨b, by rw [h2.2.length]; exact h1.last, h2.1⟩
/-- what putting comes to -/
def PutEnd (S : Nat → Prop) (s : Int) (n : Nat) (ts : List Ct) (w : World) (e : Ending) (w' : World) : Prop :=
  ∃ g2 cap2, e = .returned (.agg #[.int .i64 s, .slice (some ⟨g2, 0, none⟩) ts.length cap2, .int .i64 (n : Nat)]) ∧ AtP w' S ts g2 cap2 ∧ Below w.heap.size w w'
theorem impl_putP (S : Nat → Prop) (s0 s : Int) (n : Nat) (hn : n ≤ 1000) (t : Ct) (ts l : List Ct) (g cap : Nat) (p : Option Addr) (cap' : Nat) (w : World) (hP : AtP w S (t :: ts) g cap) (hlen : ts.length ≤ 100000)
    (hL : ∀ j x, l[j]? = some x → ∃ g' b, p = some ⟨g', 0, none⟩ ∧ w.cell? ⟨g', j, none⟩ = some (ptr b) ∧ Tree w S x b) (hls : l.length ≤ 2) :
    Calls Tryz.prog 63 #[.agg #[.int .i64 s0, .slice (some ⟨g, 0, none⟩) (ts.length + 1) cap, .int .i64 n], .int .i64 s, .slice p l.length cap'] w (PutEnd S s (n + 1) (l ++ ts) w) := by
  obtain ⟨bs, h1, h2, h3⟩ := hP
  match bs, h1, h2 with
  | b :: bs, h1, h2 =>
    have hlb := h2.2.length
    have key : ∃ ls : List Nat, Trees w S l ls ∧ ∀ j b, ls[j]? = some b → ∃ g', p = some ⟨g', 0, none⟩ ∧ w.cell? ⟨g', j, none⟩ = some (ptr b) := by
      match l, hL, hls with
      | [], _, _ => exact ⟨[], trivial, by simp⟩
      | [x], hL, _ =>
        obtain ⟨g', c, e, hc, hT⟩ := hL 0 x rfl
        refine ⟨[c], ⟨hT, trivial⟩, fun j b hj => ?_⟩
        match j, hj with
        | 0, hj => simp at hj; subst hj; exact ⟨g', e, hc⟩
        | j + 1, hj => simp at hj
      | [x, y], hL, _ =>
        obtain ⟨g', c, e, hc, hT⟩ := hL 0 x rfl
        obtain ⟨g2, c2, e2, hc2, hT2⟩ := hL 1 y rfl
        refine ⟨[c, c2], ⟨hT, hT2, trivial⟩, fun j b hj => ?_⟩
        match j, hj with
        | 0, hj => simp at hj; subst hj; exact ⟨g', e, hc⟩
        | 1, hj => simp at hj; subst hj; exact ⟨g2, e2, hc2⟩
        | j + 2, hj => simp at hj
      | _ :: _ :: _ :: _, _, h => simp at h
    obtain ⟨ls, hT, hc⟩ := key
    have hll := hT.length
    rw [hlb, hll]
    refine (impl_put s0 s n hn b bs ls g cap p cap' w h1 (by omega) (by simp at h3; omega) hc (by omega)).mono ?_
    rintro e w' ⟨g2, cap2, rfl, hP2, hc2, hb⟩
    refine ⟨g2, cap2, by rw [List.length_append, List.length_append, hll, hlb], ⟨ls ++ bs, hP2, ?_, ?_⟩, hb⟩
    · exact (Trees.append l ls ts bs hT h2.2).map (fun t b h => Tree.grown hb t b h)
    · rw [List.length_append, hll, hlb, ← List.length_append]; exact hc2

theorem impl_chooser (t : Ct) (ht : t.WF) (s : Nat) (hp : t.next s = .pick) (w : World) : Calls Tryz.prog 64 #[.int .u8 (t.op.toNat : Int)] w fun e w' => e = .returned (.string (whoN t.who)) ∧ w = w' := by
  rcases next_pick ht hp with ⟨d, rfl, hd⟩ | ⟨d, rfl, hd⟩ | ⟨x, rfl⟩ | ⟨x, rfl⟩ | ⟨x, y, rfl⟩ | ⟨x, y, rfl⟩
  all_goals
    clear hp ht
    go_enter Tryz.func64, Tryz.ntmps64
    go_wp2_with fail
    go_ret
    exact ⟨rfl, rfl⟩

/-- numbers in memory -/
structure Ints (w : World) (g : Nat) (l : List Nat) : Prop where
  lies : ∀ j v, l[j]? = some v → w.cell? ⟨g, j, none⟩ = some (.int .i64 (v : Nat))
theorem Ints.grown {w w' : World} {g : Nat} {l : List Nat} (h : Ints w g l) (hb : Below w.heap.size w w') : Ints w' g l := ⟨fun j b hj => cell_grown (h.lies j b hj) hb⟩
def intV (v : Nat) : Value := .int .i64 (v : Nat)
theorem owned_ints {w : World} {base n : Nat} {e : TypeId} {v : Value} {l : List Nat} (h : w.ownsRow base e 1 v n (l.map intV)) (hne : v ≠ .slice none 0 0) :
    ∃ g cap, v = .slice (some ⟨g, 0, none⟩) n cap ∧ n ≤ cap ∧ base ≤ g ∧ Ints w g l := by
  rcases h.2 with ⟨rfl, _⟩ | ⟨g, cap, cur, rfl, hg, _, hle, _⟩
  · exact absurd rfl hne
  · refine ⟨g, cap, rfl, hle, hg, ⟨fun j b hj => ?_⟩⟩
    have h1 := World.ownsRow.cells h (g := g) rfl j (intV b) (by rw [List.getElem?_map, hj]; rfl)
    have h2 : (⟨g, 0, none⟩ : Addr).add j = ⟨g, j, none⟩ := by unfold Addr.add; split <;> simp_all
    rwa [h2] at h1
theorem int_info4 : (Tryz.prog.info? 3).map (fun i => (i.zero, i.size, i.bytes)) = some (some (.int .i64 0), 1, 8) := by kernel_rfl
theorem filt_succ (f : Nat → Bool) (k : Nat) : (List.range (k + 1)).filter f = if f k then (List.range k).filter f ++ [k] else (List.range k).filter f := by
  rw [List.range_succ, List.filter_append]
  cases h : f k
  · simp [h, List.filter]
  · simp [h, List.filter]
def ChEnd (l : List Nat) (w : World) (e : Ending) (w' : World) : Prop := ∃ g cap, e = .returned (.slice (some ⟨g, 0, none⟩) l.length cap) ∧ Ints w' g l ∧ Below w.heap.size w w' ∧ w.heap.size ≤ g
theorem impl_choices01 (S : Nat → Prop) (t : Ct) (h65 : t.op ≠ 65) (h68 : t.op ≠ 68) (ts : List Ct) (s : Int) (n g cap : Nat) (w : World) (hP : AtP w S (t :: ts) g cap) (hn : ts.length ≤ 100000) :
    Calls Tryz.prog 27 #[.agg #[.int .i64 s, .slice (some ⟨g, 0, none⟩) (ts.length + 1) cap, .int .i64 n]] w (ChEnd [0, 1] w) := by
  obtain ⟨b, hl, hT⟩ := hP.top
  obtain ⟨pv, _, hN, _⟩ := hT.opened
  have e1 := u8_ne (n := 65) h65 rfl
  have e2 := u8_ne (n := 68) h68 rfl
  have e3 : ((t.op.toNat : Int) != 65) = true := by simp [bne, e1]
  have e4 : ((t.op.toNat : Int) != 68) = true := by simp [bne, e2]
  clear h65 h68 hT hP
  generalize ts.length = n at *
  have hl' : ∀ o, (w.alloc o).cell? ⟨g, n, none⟩ = some (.pointer (some ⟨b, 0, none⟩)) := fun o => cell_grown hl (below_new (Below.refl _ _) _)
  have hN' : ∀ o, (w.alloc o).cell? ⟨b, 0, none⟩ = some (.int .u8 (t.op.toNat : Int)) := fun o => (hN.grown (below_new (Below.refl _ _) o)).op
  have hbb : ∀ o, Below w.heap.size w ((w.alloc o).alloc (Obj.cells #[.int .i64 0, .int .i64 1] 3)) := fun o => below_new (below_new (Below.refl _ _) _) _
  have h0 : ∀ o, ((w.alloc o).alloc (Obj.cells #[.int .i64 0, .int .i64 1] 3)).heap[w.heap.size + 1]? = some (.cells #[.int .i64 0, .int .i64 1] 3 (0, 0)) := fun o => heap_alloc2_new w o _
  go_enter Tryz.func27, Tryz.ntmps27
  go_wp2_with fail
  go_ret
  refine ⟨w.heap.size + 1, 2, rfl, ⟨fun j v hj => ?_⟩, hbb _, by omega⟩
  match j, hj with
  | 0, hj => simp at hj; subst hj; rw [cell_of_row _ _ 0 _ _ _ (h0 _)]; rfl
  | 1, hj => simp at hj; subst hj; rw [cell_of_row _ _ 1 _ _ _ (h0 _)]; rfl
  | j + 2, hj => simp at hj
theorem impl_choicesR65 (S : Nat → Prop)  (d : List Int) (hd : d.length = 4) (ts : List Ct) (s : Nat) (hs : s < 4) (n g cap : Nat) (w : World) (hP : AtP w S (Ct.n0 65 d :: ts) g cap) (hn : ts.length ≤ 100000) :
    Calls Tryz.prog 27 #[.agg #[.int .i64 s, .slice (some ⟨g, 0, none⟩) (ts.length + 1) cap, .int .i64 n]] w (ChEnd ((Ct.n0 65 d).opts s) w) := by
  obtain ⟨i0, hi, hz0, hz1, hz2⟩ := info_parts int_info4
  obtain ⟨b, hl, hT⟩ := hP.top
  obtain ⟨_, hN⟩ := hT
  have HD : Hid (relD d s = dsF d s) := relD4 hd s hs
  have HO : Hid ((Ct.n0 65 d).opts s = (List.range 4).filter fun u => has (dsF d s) u) := rfl
  clear hP
  generalize ts.length = k0 at *
  have hl' : ∀ o, (w.alloc o).cell? ⟨g, k0, none⟩ = some (.pointer (some ⟨b, 0, none⟩)) := fun o => cell_grown hl (below_new (Below.refl _ _) _)
  have hN' : ∀ x, (w.alloc x).cell? ⟨b, 0, none⟩ = some (.int .u8 65) := fun x => (hN.grown (below_new (Below.refl _ _) x)).op
  have hb0 := below_new (below_new (Below.refl w.heap.size w) (Obj.cells #[.int .i64 s, .slice (some ⟨g, 0, none⟩) (k0 + 1) cap, .int .i64 n] 50)) (Obj.cells #[] 3)
  have B0 := (Blk.new w 50 #[.int .i64 s, .slice (some ⟨g, 0, none⟩) (k0 + 1) cap, .int .i64 n]).old (Obj.cells #[] 3)
  have hsA : (w.alloc (Obj.cells #[.int .i64 s, .slice (some ⟨g, 0, none⟩) (k0 + 1) cap, .int .i64 n] 50)).heap.size = w.heap.size + 1 := by simp
  have hw0 : ((w.alloc (Obj.cells #[.int .i64 s, .slice (some ⟨g, 0, none⟩) (k0 + 1) cap, .int .i64 n] 50)).alloc (Obj.cells #[] 3)).ownsRow (w.heap.size + 1) 3 1 (.slice (some ⟨w.heap.size + 1, 0, none⟩) 0 0) 0 [] := by
    rw [← hsA]; exact World.ownsRow_made _ #[] _ (Nat.le_refl _) (by decide) rfl
  clear hsA
  go_enter Tryz.func27, Tryz.ntmps27
  go_wp2_with fail
  go_loopw [4, 28] (fun l i wr => ∃ m : Nat, m ≤ 4 ∧ i = .int .i64 m ∧ l ≠ .slice none 0 0 ∧ wr.ownsRow (w.heap.size + 1) 3 1 l ((List.range m).filter fun u => has (dsF d s) u).length (((List.range m).filter fun u => has (dsF d s) u).map intV) ∧ Blk wr w.heap.size 50 #[.int .i64 s, .slice (some ⟨g, 0, none⟩) (k0 + 1) cap, .int .i64 n] ∧ Below w.heap.size w wr) (fun _ i _ => 4 - (intOf i).toNat)
  case atStart => exact ⟨0, by omega, rfl, by simp, hw0, B0, hb0⟩
  case round =>
    clear hw0 B0 hb0 hl' hN'
    obtain ⟨m, hm, rfl, hne, hown, B, hb⟩ := hrel
    by_cases hlt : m < 4
    · have HF := Lib.hid (filt_succ (fun u => has (dsF d s) u) m)
      have hfl := filt_le (fun u => has (dsF d s) u) m
      have hNr := (hN.grown hb).range
      have hc0 := B.cell3.1
      cases hh : has (dsF d s) m
      all_goals
        have HH := Lib.hid hh
        clear hh
        go_wp2_with fail
        refine wp_region_held_drew (S := fun W => Below wr.heap.size wr W) (by kernel_rfl) ?_ (fun hS => ?_)
        · exact (Below.refl _ _).drew
        refine wpAnyH_take (i := 0) (v := .pointer (some ⟨b, 0, none⟩)) rfl (by kernel_rfl) (by kernel_rfl) (by kernel_rfl) (fun _ _ _ h => h) (Or.inl ⟨by rfl, ?_⟩) hS ?_
        · intro w hSw
          go_simp
        simp only [Act.put, List.getElem_toArray, List.getElem_cons_succ, List.getElem_cons_zero, List.setIfInBounds_toArray, List.set_cons_zero, List.set_cons_succ]
        refine wpAnyH_take (i := 1) (v := .pointer (some ⟨b, 0, none⟩)) rfl (by kernel_rfl) (by kernel_rfl) (by kernel_rfl) (fun _ _ _ h => h) (Or.inl ⟨by rfl, ?_⟩) hS ?_
        · intro w hSw
          go_simp
        simp only [Act.put, List.getElem_toArray, List.getElem_cons_succ, List.getElem_cons_zero, List.setIfInBounds_toArray, List.set_cons_zero, List.set_cons_succ]
        refine wpAnyH_take (i := 2) (v := .pointer (some ⟨b, 2, none⟩)) rfl (by kernel_rfl) (by kernel_rfl) (by kernel_rfl) (fun _ _ _ h => h) (Or.inl ⟨by rfl, ?_⟩) hS ?_
        · intro w hSw
          go_simp
        simp only [Act.put, List.getElem_toArray, List.getElem_cons_succ, List.getElem_cons_zero, List.setIfInBounds_toArray, List.set_cons_zero, List.set_cons_succ]
        refine wpAnyH_take (i := 3) (v := .agg (cs 4 (relD d))) rfl (by kernel_rfl) (by kernel_rfl) (by kernel_rfl) (fun _ _ _ h => h) (yieldsIf_load_mid (by rfl) _ _ rfl b 2 rfl _ _ (fun W hW => (hN.grown (below_step hb hW)).range) rel_u rfl rel_i) hS ?_
        simp only [Act.put, List.getElem_toArray, List.getElem_cons_succ, List.getElem_cons_zero, List.setIfInBounds_toArray, List.set_cons_zero, List.set_cons_succ]
        refine wpAnyH_take (i := 4) (v := .pointer (some ⟨w.heap.size, 0, none⟩)) rfl (by kernel_rfl) (by kernel_rfl) (by kernel_rfl) (fun _ _ _ h => h) (Or.inl ⟨by rfl, ?_⟩) hS ?_
        · intro w hSw
          go_simp
        simp only [Act.put, List.getElem_toArray, List.getElem_cons_succ, List.getElem_cons_zero, List.setIfInBounds_toArray, List.set_cons_zero, List.set_cons_succ]
        refine wpAnyH_take (i := 5) (v := .int .i64 s) rfl (by kernel_rfl) (by kernel_rfl) (by kernel_rfl) (fun _ _ _ h => h) (Or.inl ⟨by rfl, ?_⟩) hS ?_
        · rintro W hSw
          have h7 := cell_grown hc0 hSw
          clear hSw
          go_simp
        simp only [Act.put, List.getElem_toArray, List.getElem_cons_succ, List.getElem_cons_zero, List.setIfInBounds_toArray, List.set_cons_zero, List.set_cons_succ]
        refine wpAnyH_take (i := 6) (v := .int .i64 m) rfl (by kernel_rfl) (by kernel_rfl) (by kernel_rfl) (fun _ _ _ h => h) (Or.inl ⟨by rfl, ?_⟩) hS ?_
        · intro w hSw
          go_simp
        simp only [Act.put, List.getElem_toArray, List.getElem_cons_succ, List.getElem_cons_zero, List.setIfInBounds_toArray, List.set_cons_zero, List.set_cons_succ]
        refine wpAnyH_ready (rs := [7]) (by kernel_rfl) (by simp) ?_
        refine AllReadyH.cons rfl (fun K hK => ?_) AllReadyH.nil
        rw [if_pos (by rfl)]
        refine op_call 65 _ _ rfl (enters_of Tryz.func65 (by kernel_rfl) rfl) _ (impl_rel_has _ s m hs hlt _) rfl ?_
        rintro e w4 ⟨rfl, hb4⟩
        refine ⟨_, rfl, ?_⟩
        refine hK.out _ _ ?_ (fun hS1 => ?_)
        · exact below_step hS hb4
        clear hK K
        replace hS := hS1
        clear hS1
        simp only [Act.put, List.getElem_toArray, List.getElem_cons_succ, List.getElem_cons_zero, List.setIfInBounds_toArray, List.set_cons_zero, List.set_cons_succ]
        rw [HD.out, HH.out]
        refine wpAnyH_done (by kernel_rfl) ?_ _
        have hown4 := own_below hown hS
        have B4 := B.grown hS
        have hb4' := below_step hb hS
        have hsz4 : w.heap.size + 1 ≤ w4.heap.size := by have := B4.lt; omega
        clear hown hNr hc0
      · rw [HH.out] at HF
        go_wp2_with fail
        go_roundw
        case rel => exact ⟨m + 1, by omega, by go_num, hne, by rw [HF.out]; exact hown4, B4, hb4'⟩
        case measure => simp [intOf]; omega
      · rw [HH.out] at HF
        go_wp2_with (first
          | (at_builtin; refine wpList_append_own _ rfl _ _ _ rfl (w.heap.size + 1) 3 i0 (.int .i64 0) 1 8 (by kernel_rfl) hi hz0 hz1 hz2 rfl (by decide) _ _ _ rfl (hown4.alloc _) ⟨w4.heap.size, 0, none⟩ 1 1 [.int .i64 m] rfl rfl ?d1 ?d2 ?d3 ?d4 ?d5 ?_)
          | go_in)
        case d2 => first | rfl | (intro x hx; simp at hx; subst hx; rfl)
        case d3 => unfold maxLen; omega
        case d4 => omega
        case d5 => first | omega | (simp; omega)
        intro v2 w2 hown2 hgrow2 hnil2
        have hne2 : v2 ≠ .slice none 0 0 := hnil2
        have hb2 : Below (w.heap.size + 1) w4 w2 :=
          ((Below.refl (w.heap.size + 1) w4).alloc hsz4 (Obj.cells #[.int .i64 m] 3)).grown hgrow2 (by simp; omega) (fun q hq => (hown4.lt q hq).1)
        go_wp2_with fail
        go_roundw
        case rel => exact ⟨m + 1, by omega, by go_num, hne2, by rw [HF.out, if_pos trivial, List.length_append, List.map_append]; exact hown2, B4.below hb2 (by omega), hb4'.trans (hb2.mono (by omega))⟩
        case measure => simp [intOf]; omega
    · obtain rfl : m = 4 := by omega
      rw [← HO.out] at hown
      obtain ⟨g2, cap2, rfl, hle, hg2, hI⟩ := owned_ints hown hne
      go_wp2_with fail
      go_ret
      exact ⟨g2, cap2, rfl, hI, hb, by omega⟩
theorem impl_choicesR68 (S : Nat → Prop)  (d : List Int) (hd : d.length = 4) (ts : List Ct) (s : Nat) (hs : s < 4) (n g cap : Nat) (w : World) (hP : AtP w S (Ct.n0 68 d :: ts) g cap) (hn : ts.length ≤ 100000) :
    Calls Tryz.prog 27 #[.agg #[.int .i64 s, .slice (some ⟨g, 0, none⟩) (ts.length + 1) cap, .int .i64 n]] w (ChEnd ((Ct.n0 68 d).opts s) w) := by
  obtain ⟨i0, hi, hz0, hz1, hz2⟩ := info_parts int_info4
  obtain ⟨b, hl, hT⟩ := hP.top
  obtain ⟨_, hN⟩ := hT
  have HD : Hid (relD d s = dsF d s) := relD4 hd s hs
  have HO : Hid ((Ct.n0 68 d).opts s = (List.range 4).filter fun u => has (dsF d s) u) := rfl
  clear hP
  generalize ts.length = k0 at *
  have hl' : ∀ o, (w.alloc o).cell? ⟨g, k0, none⟩ = some (.pointer (some ⟨b, 0, none⟩)) := fun o => cell_grown hl (below_new (Below.refl _ _) _)
  have hN' : ∀ x, (w.alloc x).cell? ⟨b, 0, none⟩ = some (.int .u8 68) := fun x => (hN.grown (below_new (Below.refl _ _) x)).op
  have hb0 := below_new (below_new (Below.refl w.heap.size w) (Obj.cells #[.int .i64 s, .slice (some ⟨g, 0, none⟩) (k0 + 1) cap, .int .i64 n] 50)) (Obj.cells #[] 3)
  have B0 := (Blk.new w 50 #[.int .i64 s, .slice (some ⟨g, 0, none⟩) (k0 + 1) cap, .int .i64 n]).old (Obj.cells #[] 3)
  have hsA : (w.alloc (Obj.cells #[.int .i64 s, .slice (some ⟨g, 0, none⟩) (k0 + 1) cap, .int .i64 n] 50)).heap.size = w.heap.size + 1 := by simp
  have hw0 : ((w.alloc (Obj.cells #[.int .i64 s, .slice (some ⟨g, 0, none⟩) (k0 + 1) cap, .int .i64 n] 50)).alloc (Obj.cells #[] 3)).ownsRow (w.heap.size + 1) 3 1 (.slice (some ⟨w.heap.size + 1, 0, none⟩) 0 0) 0 [] := by
    rw [← hsA]; exact World.ownsRow_made _ #[] _ (Nat.le_refl _) (by decide) rfl
  clear hsA
  go_enter Tryz.func27, Tryz.ntmps27
  go_wp2_with fail
  go_loopw [4, 28] (fun l i wr => ∃ m : Nat, m ≤ 4 ∧ i = .int .i64 m ∧ l ≠ .slice none 0 0 ∧ wr.ownsRow (w.heap.size + 1) 3 1 l ((List.range m).filter fun u => has (dsF d s) u).length (((List.range m).filter fun u => has (dsF d s) u).map intV) ∧ Blk wr w.heap.size 50 #[.int .i64 s, .slice (some ⟨g, 0, none⟩) (k0 + 1) cap, .int .i64 n] ∧ Below w.heap.size w wr) (fun _ i _ => 4 - (intOf i).toNat)
  case atStart => exact ⟨0, by omega, rfl, by simp, hw0, B0, hb0⟩
  case round =>
    clear hw0 B0 hb0 hl' hN'
    obtain ⟨m, hm, rfl, hne, hown, B, hb⟩ := hrel
    by_cases hlt : m < 4
    · have HF := Lib.hid (filt_succ (fun u => has (dsF d s) u) m)
      have hfl := filt_le (fun u => has (dsF d s) u) m
      have hNr := (hN.grown hb).range
      have hc0 := B.cell3.1
      cases hh : has (dsF d s) m
      all_goals
        have HH := Lib.hid hh
        clear hh
        go_wp2_with fail
        refine wp_region_held_drew (S := fun W => Below wr.heap.size wr W) (by kernel_rfl) ?_ (fun hS => ?_)
        · exact (Below.refl _ _).drew
        refine wpAnyH_take (i := 0) (v := .pointer (some ⟨b, 0, none⟩)) rfl (by kernel_rfl) (by kernel_rfl) (by kernel_rfl) (fun _ _ _ h => h) (Or.inl ⟨by rfl, ?_⟩) hS ?_
        · intro w hSw
          go_simp
        simp only [Act.put, List.getElem_toArray, List.getElem_cons_succ, List.getElem_cons_zero, List.setIfInBounds_toArray, List.set_cons_zero, List.set_cons_succ]
        refine wpAnyH_take (i := 1) (v := .pointer (some ⟨b, 0, none⟩)) rfl (by kernel_rfl) (by kernel_rfl) (by kernel_rfl) (fun _ _ _ h => h) (Or.inl ⟨by rfl, ?_⟩) hS ?_
        · intro w hSw
          go_simp
        simp only [Act.put, List.getElem_toArray, List.getElem_cons_succ, List.getElem_cons_zero, List.setIfInBounds_toArray, List.set_cons_zero, List.set_cons_succ]
        refine wpAnyH_take (i := 2) (v := .pointer (some ⟨b, 2, none⟩)) rfl (by kernel_rfl) (by kernel_rfl) (by kernel_rfl) (fun _ _ _ h => h) (Or.inl ⟨by rfl, ?_⟩) hS ?_
        · intro w hSw
          go_simp
        simp only [Act.put, List.getElem_toArray, List.getElem_cons_succ, List.getElem_cons_zero, List.setIfInBounds_toArray, List.set_cons_zero, List.set_cons_succ]
        refine wpAnyH_take (i := 3) (v := .agg (cs 4 (relD d))) rfl (by kernel_rfl) (by kernel_rfl) (by kernel_rfl) (fun _ _ _ h => h) (yieldsIf_load_mid (by rfl) _ _ rfl b 2 rfl _ _ (fun W hW => (hN.grown (below_step hb hW)).range) rel_u rfl rel_i) hS ?_
        simp only [Act.put, List.getElem_toArray, List.getElem_cons_succ, List.getElem_cons_zero, List.setIfInBounds_toArray, List.set_cons_zero, List.set_cons_succ]
        refine wpAnyH_take (i := 4) (v := .pointer (some ⟨w.heap.size, 0, none⟩)) rfl (by kernel_rfl) (by kernel_rfl) (by kernel_rfl) (fun _ _ _ h => h) (Or.inl ⟨by rfl, ?_⟩) hS ?_
        · intro w hSw
          go_simp
        simp only [Act.put, List.getElem_toArray, List.getElem_cons_succ, List.getElem_cons_zero, List.setIfInBounds_toArray, List.set_cons_zero, List.set_cons_succ]
        refine wpAnyH_take (i := 5) (v := .int .i64 s) rfl (by kernel_rfl) (by kernel_rfl) (by kernel_rfl) (fun _ _ _ h => h) (Or.inl ⟨by rfl, ?_⟩) hS ?_
        · rintro W hSw
          have h7 := cell_grown hc0 hSw
          clear hSw
          go_simp
        simp only [Act.put, List.getElem_toArray, List.getElem_cons_succ, List.getElem_cons_zero, List.setIfInBounds_toArray, List.set_cons_zero, List.set_cons_succ]
        refine wpAnyH_take (i := 6) (v := .int .i64 m) rfl (by kernel_rfl) (by kernel_rfl) (by kernel_rfl) (fun _ _ _ h => h) (Or.inl ⟨by rfl, ?_⟩) hS ?_
        · intro w hSw
          go_simp
        simp only [Act.put, List.getElem_toArray, List.getElem_cons_succ, List.getElem_cons_zero, List.setIfInBounds_toArray, List.set_cons_zero, List.set_cons_succ]
        refine wpAnyH_ready (rs := [7]) (by kernel_rfl) (by simp) ?_
        refine AllReadyH.cons rfl (fun K hK => ?_) AllReadyH.nil
        rw [if_pos (by rfl)]
        refine op_call 65 _ _ rfl (enters_of Tryz.func65 (by kernel_rfl) rfl) _ (impl_rel_has _ s m hs hlt _) rfl ?_
        rintro e w4 ⟨rfl, hb4⟩
        refine ⟨_, rfl, ?_⟩
        refine hK.out _ _ ?_ (fun hS1 => ?_)
        · exact below_step hS hb4
        clear hK K
        replace hS := hS1
        clear hS1
        simp only [Act.put, List.getElem_toArray, List.getElem_cons_succ, List.getElem_cons_zero, List.setIfInBounds_toArray, List.set_cons_zero, List.set_cons_succ]
        rw [HD.out, HH.out]
        refine wpAnyH_done (by kernel_rfl) ?_ _
        have hown4 := own_below hown hS
        have B4 := B.grown hS
        have hb4' := below_step hb hS
        have hsz4 : w.heap.size + 1 ≤ w4.heap.size := by have := B4.lt; omega
        clear hown hNr hc0
      · rw [HH.out] at HF
        go_wp2_with fail
        go_roundw
        case rel => exact ⟨m + 1, by omega, by go_num, hne, by rw [HF.out]; exact hown4, B4, hb4'⟩
        case measure => simp [intOf]; omega
      · rw [HH.out] at HF
        go_wp2_with (first
          | (at_builtin; refine wpList_append_own _ rfl _ _ _ rfl (w.heap.size + 1) 3 i0 (.int .i64 0) 1 8 (by kernel_rfl) hi hz0 hz1 hz2 rfl (by decide) _ _ _ rfl (hown4.alloc _) ⟨w4.heap.size, 0, none⟩ 1 1 [.int .i64 m] rfl rfl ?d1 ?d2 ?d3 ?d4 ?d5 ?_)
          | go_in)
        case d2 => first | rfl | (intro x hx; simp at hx; subst hx; rfl)
        case d3 => unfold maxLen; omega
        case d4 => omega
        case d5 => first | omega | (simp; omega)
        intro v2 w2 hown2 hgrow2 hnil2
        have hne2 : v2 ≠ .slice none 0 0 := hnil2
        have hb2 : Below (w.heap.size + 1) w4 w2 :=
          ((Below.refl (w.heap.size + 1) w4).alloc hsz4 (Obj.cells #[.int .i64 m] 3)).grown hgrow2 (by simp; omega) (fun q hq => (hown4.lt q hq).1)
        go_wp2_with fail
        go_roundw
        case rel => exact ⟨m + 1, by omega, by go_num, hne2, by rw [HF.out, if_pos trivial, List.length_append, List.map_append]; exact hown2, B4.below hb2 (by omega), hb4'.trans (hb2.mono (by omega))⟩
        case measure => simp [intOf]; omega
    · obtain rfl : m = 4 := by omega
      rw [← HO.out] at hown
      obtain ⟨g2, cap2, rfl, hle, hg2, hI⟩ := owned_ints hown hne
      go_wp2_with fail
      go_ret
      exact ⟨g2, cap2, rfl, hI, hb, by omega⟩
theorem impl_choices (S : Nat → Prop) (t : Ct) (ht : t.WF) (ts : List Ct) (s : Nat) (hs : s < 4) (hp : t.next s = .pick) (n g cap : Nat) (w : World) (hP : AtP w S (t :: ts) g cap) (hn : ts.length ≤ 100000) :
    Calls Tryz.prog 27 #[.agg #[.int .i64 s, .slice (some ⟨g, 0, none⟩) (ts.length + 1) cap, .int .i64 n]] w (ChEnd (t.opts s) w) := by
  rcases next_pick ht hp with ⟨d, rfl, hd⟩ | ⟨d, rfl, hd⟩ | ⟨x, rfl⟩ | ⟨x, rfl⟩ | ⟨x, y, rfl⟩ | ⟨x, y, rfl⟩
  · exact impl_choicesR65 S d hd ts s hs n g cap w hP hn
  · exact impl_choicesR68 S d hd ts s hs n g cap w hP hn
  · exact impl_choices01 S _ (by show (42 : UInt8) ≠ 65; decide) (by show (42 : UInt8) ≠ 68; decide) ts s n g cap w hP hn
  · exact impl_choices01 S _ (by show (43 : UInt8) ≠ 65; decide) (by show (43 : UInt8) ≠ 68; decide) ts s n g cap w hP hn
  · exact impl_choices01 S _ (by show (38 : UInt8) ≠ 65; decide) (by show (38 : UInt8) ≠ 68; decide) ts s n g cap w hP hn
  · exact impl_choices01 S _ (by show (124 : UInt8) ≠ 65; decide) (by show (124 : UInt8) ≠ 68; decide) ts s n g cap w hP hn
end Go.Proofs.YtaeibhpkcikaaaaGreatDoor
