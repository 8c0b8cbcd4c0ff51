/- Contracts: the program's reading of contracts into trees, the walk. -/
import Derived.Test.YtaeibhpkcikaaaaGreatDoorGK
namespace Go.Proofs.YtaeibhpkcikaaaaGreatDoor
set_option linter.unusedVariables false
set_option linter.unusedSimpArgs false
open Go.RowKit Go.Shelf
set_option maxRecDepth 100000
set_option maxHeartbeats 1000000

theorem ptr_info3 : (Tryz.prog.info? 44).map (fun i => (i.zero, i.size, i.bytes)) = some (some (.pointer none), 1, 8) := by kernel_rfl
theorem own_form {w : World} {base n : Nat} {e : TypeId} {v : Value} {xs : List Value} (h : w.ownsRow base e 1 v n xs) (hn : 0 < n) : ∃ g cap, v = .slice (some ⟨g, 0, none⟩) n cap := by
  rcases h.2 with ⟨_, h0⟩ | ⟨g, cap, cur, rfl, _⟩
  · omega
  · exact ⟨g, cap, rfl⟩
/-- what reading from a place comes to -/
def RdPost (c : ByteArray) (a : Nat) (w : World) (e : Ending) (w' : World) : Prop :=
  ((∃ (t : Ct) (b : Nat), t.WF ∧ LiesAt c a t ∧ e = .returned (.tuple #[.pointer (some ⟨b, 0, none⟩), .int .i64 ((a + t.len : Nat) : Int)]) ∧ Tree w' (fun q => w.heap.size ≤ q) t b) ∨ (Nothing c a ∧ e = .returned (.tuple #[.pointer none, .int .i64 0]))) ∧ Below w.heap.size w w'
/-- the digits read so far -/
def pAt (c : ByteArray) (a j : Nat) : Int := if j = 0 then 0 else hx (bt c (a + j))
def rAt (c : ByteArray) (a n j : Nat) (k : Nat) : Int := if n = 4 ∧ k < j then hx (bt c (a + 1 + k)) else 0
theorem pAt_last {c : ByteArray} {a n : Nat} : pAt c a n = lastD (digsAt c (a + 1) n) := by
  unfold pAt lastD digsAt
  cases n with
  | zero => rfl
  | succ n =>
    rw [if_neg (by omega), List.range_succ, List.map_append]
    simp
    congr 2; omega
theorem rAt_rel {c : ByteArray} {a n : Nat} (k : Nat) (hk : k < 4) : rAt c a n n k = relD (digsAt c (a + 1) n) k := by
  unfold rAt relD
  rw [digsAt_len]
  by_cases h : n = 4
  · rw [if_pos ⟨h, by omega⟩, if_pos h]
    unfold dsF digsAt
    rw [List.getD_eq_getElem?_getD, List.getElem?_map, List.getElem?_range (by omega)]
    rfl
  · rw [if_neg (fun e => h e.1), if_neg h]

/-- reading a statement with four digits, where the reading of what is behind it is known -/
theorem impl_readFrom_4 (c : ByteArray) (hc : c.size ≤ 200) (a k : Nat) (hs : shp (bt c a) = some (k, 4)) (hsz : a + 1 + 4 ≤ c.size)
    (ih : ∀ (a' : Nat), a < a' → ∀ (i : Int) (w : World), i = a' → Calls Tryz.prog 54 #[.string c, .int .i64 i] w (RdPost c a' w)) (w : World) :
    Calls Tryz.prog 54 #[.string c, .int .i64 (a : Int)] w (RdPost c a w) := by
  have HS := Lib.hid hs
  have ha : a < c.size := by omega
  have hk2 : k ≤ 2 := (shp_le hs).1
  have HI : Hid (shpI (bt c a) = ((k : Int), 4)) := shpI_some hs
  clear hs
  have hend : (a : Int) + 1 + 4 ≤ (c.size : Int) := by omega
  have hk0 : decide ((k : Int) < 0) = false := by rw [decide_eq_false_iff_not]; omega
  have hN0 : Node (w.alloc (.cells #[.int .u8 ((bt c a).toNat : Int), .int .i64 0, .int .i64 0, .int .i64 0, .int .i64 0, .int .i64 0, .slice none 0 0, .string ⟨#[]⟩] 84)) w.heap.size (bt c a) (pAt c a 0) (rAt c a 4 0) (.slice none 0 0) ⟨#[]⟩ := by
    refine ⟨(heap_alloc_new w _).trans ?_⟩
    simp [pAt, rAt]
  have hb0 := below_new (Below.refl w.heap.size w) (.cells #[.int .u8 ((bt c a).toNat : Int), .int .i64 0, .int .i64 0, .int .i64 0, .int .i64 0, .int .i64 0, .slice none 0 0, .string ⟨#[]⟩] 84)
  obtain ⟨i0, hi, hz0, hz1, hz2⟩ := info_parts ptr_info3
  go_enter Tryz.func54, Tryz.ntmps54
  go_wp2_with fail
  refine (impl_shapeOf _ _).mono ?_
  rintro e w' ⟨rfl, rfl⟩
  rw [HI.out]
  go_wp2_with fail
  go_loopw [10, 11] (fun i _ wr => ∃ j : Nat, j ≤ 4 ∧ i = .int .i64 ((a : Int) + 1 + j) ∧ Hid (∀ l, l < j → 0 ≤ hx (bt c (a + 1 + l))) ∧ Node wr w.heap.size (bt c a) (pAt c a j) (rAt c a 4 j) (.slice none 0 0) ⟨#[]⟩ ∧ Below w.heap.size w wr) (fun i _ _ => a + 1 + 4 - (intOf i).toNat)
  case atStart => exact ⟨0, by omega, by simp, fun l hl => by omega, hN0, hb0⟩
  case round =>
    obtain ⟨j, hj, rfl, HD, hN, hb⟩ := hrel
    clear hN0 hb0
    by_cases hlt : j < 4
    · have hjn : (a : Int) + 1 + j < (a : Int) + 1 + 4 := by omega
      have hjs : a + 1 + j < c.size := by omega
      have hjs' : ((a : Int) + 1 + j).toNat = a + 1 + j := by omega
      by_cases hneg : hx (bt c (a + 1 + j)) < 0
      · have hno := Lib.hid (nothing_dig HS.out (Bool.eq_false_iff.2 fun h => by have := digOk_hx h j hlt; omega))
        go_wp2_with fail
        refine (impl_digitOf _ _).mono ?_
        rintro e w' ⟨rfl, rfl⟩
        go_wp2_with fail
        go_ret2
        exact ⟨.inr ⟨hno.out, rfl⟩, hb⟩
      · have hpos : 0 ≤ hx (bt c (a + 1 + j)) := by omega
        have HP := Lib.hid hpos
        have f1 := hN.cp
        have f2 := hN.free 1
        have HD2 : Hid (∀ l, l < j + 1 → 0 ≤ hx (bt c (a + 1 + l))) := fun l hl => by
          rcases Nat.lt_or_ge l j with h | h
          · exact HD.out l h
          · obtain rfl : l = j := by omega
            exact HP.out
        have hpa : Hid (hx (bt c (a + 1 + j)) = pAt c a (j + 1)) := by show _ = _; unfold pAt; rw [if_neg (by omega)]; congr 2; omega
        have hjj : (a : Int) + 1 + j - a - 1 = j := by omega
        have f3 := hN.cr j hlt
        have f4 := hN.free (2 + j)
        go_wp2_with fail
        refine (impl_digitOf _ _).mono ?_
        rintro e w' ⟨rfl, rfl⟩
        go_wp2_with fail
        have hR := ((hN.setP (hx (bt c (a + 1 + j)))).setR j hlt (hx (bt c (a + 1 + j)))).ext (p' := pAt c a (j + 1)) (r' := rAt c a 4 (j + 1)) hpa.out fun l hl => by
          unfold upd rAt
          by_cases e : l = j
          · subst e; rw [if_pos rfl, if_pos ⟨rfl, by omega⟩]
          · rw [if_neg e]
            by_cases hlj : l < j
            · rw [if_pos ⟨rfl, hlj⟩, if_pos ⟨rfl, by omega⟩]
            · rw [if_neg (fun h => hlj h.2), if_neg (fun h => hlj (by omega))]
        go_roundw
        case rel => exact ⟨j + 1, by omega, by push_cast; congr 1, HD2, hR, below_setAt (below_setAt hb _ _ (Nat.le_refl _) _) _ _ (Nat.le_refl _) _⟩
        case measure => simp [intOf]; omega
    · have e10 : (a : Int) + 1 + (j : Int) = (a : Int) + 1 + 4 := by omega
      rw [e10]
      clear e10
      obtain rfl : j = 4 := by omega
      have HDO := Lib.hid (digOk_of (c := c) (a := a + 1) (n := 4) hsz HD.out)
      have hbw := hN.lt
      go_wp2_with fail
      obtain ⟨wo, rfl⟩ : ∃ wo : World, wo = wr := ⟨_, rfl⟩
      go_loopw [8, 12, 13, 71] (fun e _ _ i wr => ∃ (us : List Ct) (bs : List Nat) (pv : Value), us.length ≤ k ∧ i = .int .i64 (us.length : Nat) ∧ e = .int .i64 ((a : Int) + 1 + 4 + (sumLen us : Nat)) ∧ LieFrom c (a + 1 + 4) us ∧ Node wr w.heap.size (bt c a) (pAt c a 4) (rAt c a 4 4) pv ⟨#[]⟩ ∧ wr.ownsRow (w.heap.size + 1) 44 1 pv us.length (bs.map ptr) ∧ (us = [] → pv.ownBlock = none) ∧ Trees wr (fun q => w.heap.size < q ∧ some q ≠ pv.ownBlock) us bs ∧ Below w.heap.size w wr) (fun _ _ _ i _ => k - (intOf i).toNat)
      case atStart => exact ⟨[], [], .slice none 0 0, by simp, rfl, by simp [sumLen], trivial, hN, World.ownsRow_nil _ _ _ _, fun _ => rfl, trivial, hb⟩
      case round =>
        clear hN hb hbw
        obtain ⟨us, bs, pv, hul, rfl, rfl, hLF, hN, hown, hpv, hTr, hb⟩ := hrel
        have hbw := hN.lt
        by_cases hlt2 : us.length < k
        · have hlt3 : ((us.length : Nat) : Int) < (k : Int) := by omega
          have hb6 := hN.parts
          have hf6 := hN.free 6
          go_wp2_with fail
          refine (ih (a + 1 + 4 + sumLen us) (by omega) _ _ (by push_cast; rfl)).mono ?_
          rintro e w1 ⟨⟨t, b', ht, hl, rfl, hT⟩ | ⟨hno, rfl⟩, hb1⟩
          · have hown1 := own_below hown hb1
            have hN1 := hN.grown hb1
            have hsz1 := hb1.size
            have hTr1 := hTr.map (fun t b h => (Tree.grown hb1 t b h).weaken (S' := fun q => (w.heap.size < q ∧ some q ≠ pv.ownBlock) ∧ q < w1.heap.size) (fun q hq hl => ⟨hq, hl⟩))
            have hT1 := hT.weaken (S' := fun q => (w.heap.size < q ∧ some q ≠ pv.ownBlock) ∧ q < w1.heap.size) (fun q hq hl => ⟨⟨by omega, fun e => by have := (hown.lt q e.symm).2; omega⟩, hl⟩)
            have hl2 := LieFrom.snoc us _ t hLF ht hl
            have hne1 : some w.heap.size ≠ pv.ownBlock := fun e => by have := (hown.lt _ e.symm).1; omega
            have g6 := hN1.parts
            have gf6 := hN1.free 6
            have HW := Lib.hid hl
            clear hb6 hf6 hT hTr hl
            go_wp2_with (first
              | (at_builtin; refine wpList_append_own_at _ rfl _ _ _ rfl (w.heap.size + 1) 44 i0 (.pointer none) 1 8 (by kernel_rfl) hi hz0 hz1 hz2 rfl (by decide) _ _ _ rfl (hown1.alloc _) ⟨w1.heap.size, 0, none⟩ 1 1 [ptr b'] rfl rfl ?c1 ?c2 ?c3 ?c4 ?c5 ?_)
              | go_in)
            case c1 =>
              intro j x hj
              match j, hj with
              | 0, hj => simp at hj; subst hj; simp [Addr.add, ptr]
            case c2 => intro x hx; simp at hx; subst hx; rfl
            case c3 => unfold maxLen; omega
            case c4 => omega
            case c5 => simp; omega
            intro v' w2 hown2 hgrow _ hat
            obtain ⟨g', cap', rfl⟩ := own_form hown2 (by omega)
            have hsame : ∀ q, q < w1.heap.size → some q ≠ pv.ownBlock → w2.heap[q]? = w1.heap[q]? := fun q hq hne => (hgrow.block q (by simp; omega) hne).trans (Below.heap_alloc w1 _ q hq)
            have hN2 := hN1.kept (hsame _ (by omega) hne1)
            have hsz2 : w1.heap.size ≤ w2.heap.size := by have := hgrow.size; simp at this; omega
            have hne2 : (Value.slice (some ⟨g', 0, none⟩) (us.length + 1) cap').ownBlock ≠ some w.heap.size := by
              rcases hat with e | e
              · rw [e]; exact fun h => hne1 h.symm
              · rw [e]; simp; omega
            have hT2 := Trees.snoc us bs t b' hTr1 hT1
            have hT3 := hT2.map (fun t b h => (Tree.kept (fun q hq _ => hsame q hq.2 hq.1.2) t b h).weaken (S' := fun q => w.heap.size < q ∧ some q ≠ (Value.slice (some ⟨g', 0, none⟩) (us.length + 1) cap').ownBlock) (fun q hq _ => ⟨hq.1.1, fun e => by
              rcases hat with h | h
              · rw [h] at e; exact hq.1.2 e
              · rw [h] at e; simp at e; omega⟩))
            have hb2 : Below w.heap.size w w2 := (below_new (below_step hb hb1) _).grown hgrow (by simp; omega) (fun q hq => by have := (hown1.lt q hq).1; omega)
            have hown3 : w2.ownsRow (w.heap.size + 1) 44 1 (Value.slice (some ⟨g', 0, none⟩) (us.length + 1) cap') (us ++ [t]).length ((bs ++ [b']).map ptr) := by
              rw [List.length_append, List.map_append]; exact hown2
            have k6 := hN2.parts
            have kf6 := hN2.free 6
            clear g6 gf6 hT2 hTr1 hT1 hgrow hat hown2 hown hown1 hN hN1 hsame hb hb1
            go_wp2_with fail
            go_roundw
            case rel => exact ⟨us ++ [t], bs ++ [b'], Value.slice (some ⟨g', 0, none⟩) (us.length + 1) cap', by simp; omega, by simp, by rw [sumLen_app]; simp [sumLen]; omega, hl2, hN2.setParts _, ownsRow_setCell_other hown3 hne2 _, fun h => by simp at h, hT3.map (fun t b h => Tree.kept (fun q hq _ => heap_setCell_other w2 _ q _ (by have := hq.1; simp; omega)) t b h), below_setAt hb2 _ _ (Nat.le_refl _) _⟩
            case measure => simp [intOf]; omega
          · go_wp2_with fail
            go_ret2
            exact ⟨.inr ⟨nothing_part HS.out hLF hlt2 hno, rfl⟩, below_step hb hb1⟩
        · obtain rfl : us.length = k := by omega
          have hx7 := hN.text
          have hf7 := hN.free 7
          have hb3 := below_setAt hb w.heap.size 7 (Nat.le_refl _)
          obtain ⟨t0, ht0, hl0, hlen0, -⟩ := tree_made HS.out HDO.out hLF hN pAt_last (fun q hq => rAt_rel q hq) hown hpv (S := fun q => w.heap.size ≤ q) (hTr.map (fun t b h => h.weaken (fun q hq _ => by have := hq.1; omega))) (Nat.le_refl _) (fun g hg => by have := (hown.lt g hg).1; omega)
          have hsz0 := hl0.size
          have q1 : (a : Int) ≤ (a : Int) + 1 + 4 + (sumLen us : Nat) := by omega
          have q2 : (a : Int) + 1 + 4 + (sumLen us : Nat) ≤ (c.size : Int) := by omega
          have q3 : ((a : Int) + 1 + 4 + (sumLen us : Nat)).toNat = a + t0.len := by omega
          have q4 : (a : Int) + 1 + 4 + (sumLen us : Nat) = ((a + t0.len : Nat) : Int) := by omega
          have HX := Lib.hid (extract_lies hl0)
          rw [hlen0, show a + (1 + 4 + sumLen us) = a + (5 + sumLen us) by omega] at HX
          have HQ := Lib.hid q4
          have hfin : ∃ t : Ct, t.WF ∧ LiesAt c a t ∧ t.len = 1 + 4 + sumLen us ∧ (t0.text = t.text → Tree (wr.setCell ⟨w.heap.size, 7, none⟩ (.string t0.text)) (fun q => w.heap.size ≤ q) t w.heap.size) :=
            tree_made HS.out HDO.out hLF (hN.setText t0.text) pAt_last (fun q hq => rAt_rel q hq) (ownsRow_setCell_other hown (fun e => by have := (hown.lt _ e).1; simp at this; omega) _) hpv (hTr.map (fun t b h => (Tree.kept (fun q hq _ => heap_setCell_other wr _ q _ (by have := hq.1; simp; omega)) t b h).weaken (fun q hq _ => by have := hq.1; omega))) (Nat.le_refl _) (fun g hg => by have := (hown.lt g hg).1; omega)
          obtain ⟨t1, ht1, hl1, -, hT1⟩ := hfin
          obtain rfl := hl0.uniq hl1 ht0 ht1
          have HT := Lib.hid (hT1 rfl)
          clear hT1 hl1 ht1 q4 hTr hown hN
          go_wp2_with fail
          rw [HX.out]
          go_ret2
          rw [HQ.out]
          exact ⟨.inl ⟨t0, w.heap.size, ht0, hl0, rfl, HT.out⟩, hb3 _⟩

/-- reading a statement with at most one digit, where the reading of what is behind it is known -/
theorem impl_readFrom_n (c : ByteArray) (hc : c.size ≤ 200) (a k : Nat) (n : Nat) (hn : n ≤ 4) (hn4 : n ≠ 4) (hs : shp (bt c a) = some (k, n)) (hsz : a + 1 + n ≤ c.size)
    (ih : ∀ (a' : Nat), a < a' → ∀ (i : Int) (w : World), i = a' → Calls Tryz.prog 54 #[.string c, .int .i64 i] w (RdPost c a' w)) (w : World) :
    Calls Tryz.prog 54 #[.string c, .int .i64 (a : Int)] w (RdPost c a w) := by
  have HS := Lib.hid hs
  have ha : a < c.size := by omega
  have hk2 : k ≤ 2 := (shp_le hs).1
  have HI : Hid (shpI (bt c a) = ((k : Int), (n : Int))) := shpI_some hs
  clear hs
  have hend : (a : Int) + 1 + (n : Int) ≤ (c.size : Int) := by omega
  have hk0 : decide ((k : Int) < 0) = false := by rw [decide_eq_false_iff_not]; omega
  have hN0 : Node (w.alloc (.cells #[.int .u8 ((bt c a).toNat : Int), .int .i64 0, .int .i64 0, .int .i64 0, .int .i64 0, .int .i64 0, .slice none 0 0, .string ⟨#[]⟩] 84)) w.heap.size (bt c a) (pAt c a 0) (rAt c a n 0) (.slice none 0 0) ⟨#[]⟩ := by
    refine ⟨(heap_alloc_new w _).trans ?_⟩
    simp [pAt, rAt]
  have hb0 := below_new (Below.refl w.heap.size w) (.cells #[.int .u8 ((bt c a).toNat : Int), .int .i64 0, .int .i64 0, .int .i64 0, .int .i64 0, .int .i64 0, .slice none 0 0, .string ⟨#[]⟩] 84)
  have e4 : ((n : Int) == 4) = false := by rw [beq_eq_false_iff_ne]; omega
  have HN4 := Lib.hid hn4
  clear hn4
  obtain ⟨i0, hi, hz0, hz1, hz2⟩ := info_parts ptr_info3
  go_enter Tryz.func54, Tryz.ntmps54
  go_wp2_with fail
  refine (impl_shapeOf _ _).mono ?_
  rintro e w' ⟨rfl, rfl⟩
  rw [HI.out]
  go_wp2_with fail
  go_loopw [10, 11] (fun i _ wr => ∃ j : Nat, j ≤ n ∧ i = .int .i64 ((a : Int) + 1 + j) ∧ Hid (∀ l, l < j → 0 ≤ hx (bt c (a + 1 + l))) ∧ Node wr w.heap.size (bt c a) (pAt c a j) (rAt c a n j) (.slice none 0 0) ⟨#[]⟩ ∧ Below w.heap.size w wr) (fun i _ _ => a + 1 + n - (intOf i).toNat)
  case atStart => exact ⟨0, by omega, by simp, fun l hl => by omega, hN0, hb0⟩
  case round =>
    obtain ⟨j, hj, rfl, HD, hN, hb⟩ := hrel
    clear hN0 hb0
    by_cases hlt : j < n
    · have hjn : (a : Int) + 1 + j < (a : Int) + 1 + (n : Int) := by omega
      have hjs : a + 1 + j < c.size := by omega
      have hjs' : ((a : Int) + 1 + j).toNat = a + 1 + j := by omega
      by_cases hneg : hx (bt c (a + 1 + j)) < 0
      · have hno := Lib.hid (nothing_dig HS.out (Bool.eq_false_iff.2 fun h => by have := digOk_hx h j hlt; omega))
        go_wp2_with fail
        refine (impl_digitOf _ _).mono ?_
        rintro e w' ⟨rfl, rfl⟩
        go_wp2_with fail
        go_ret2
        exact ⟨.inr ⟨hno.out, rfl⟩, hb⟩
      · have hpos : 0 ≤ hx (bt c (a + 1 + j)) := by omega
        have HP := Lib.hid hpos
        have f1 := hN.cp
        have f2 := hN.free 1
        have HD2 : Hid (∀ l, l < j + 1 → 0 ≤ hx (bt c (a + 1 + l))) := fun l hl => by
          rcases Nat.lt_or_ge l j with h | h
          · exact HD.out l h
          · obtain rfl : l = j := by omega
            exact HP.out
        have hpa : Hid (hx (bt c (a + 1 + j)) = pAt c a (j + 1)) := by show _ = _; unfold pAt; rw [if_neg (by omega)]; congr 2; omega
        go_wp2_with fail
        refine (impl_digitOf _ _).mono ?_
        rintro e w' ⟨rfl, rfl⟩
        go_wp2_with fail
        have hR := (hN.setP (hx (bt c (a + 1 + j)))).ext (p' := pAt c a (j + 1)) (r' := rAt c a n (j + 1)) hpa.out fun l hl => by
          unfold rAt
          rw [if_neg (fun h => HN4.out h.1), if_neg (fun h => HN4.out h.1)]
        go_roundw
        case rel => exact ⟨j + 1, by omega, by push_cast; congr 1, HD2, hR, below_setAt hb _ _ (Nat.le_refl _) _⟩
        case measure => simp [intOf]; omega
    · have e10 : (a : Int) + 1 + (j : Int) = (a : Int) + 1 + (n : Int) := by omega
      rw [e10]
      clear e10
      obtain rfl : n = j := by omega
      have HDO := Lib.hid (digOk_of (c := c) (a := a + 1) (n := n) hsz HD.out)
      have hbw := hN.lt
      go_wp2_with fail
      obtain ⟨wo, rfl⟩ : ∃ wo : World, wo = wr := ⟨_, rfl⟩
      go_loopw [8, 12, 13, 71] (fun e _ _ i wr => ∃ (us : List Ct) (bs : List Nat) (pv : Value), us.length ≤ k ∧ i = .int .i64 (us.length : Nat) ∧ e = .int .i64 ((a : Int) + 1 + (n : Int) + (sumLen us : Nat)) ∧ LieFrom c (a + 1 + n) us ∧ Node wr w.heap.size (bt c a) (pAt c a n) (rAt c a n n) pv ⟨#[]⟩ ∧ wr.ownsRow (w.heap.size + 1) 44 1 pv us.length (bs.map ptr) ∧ (us = [] → pv.ownBlock = none) ∧ Trees wr (fun q => w.heap.size < q ∧ some q ≠ pv.ownBlock) us bs ∧ Below w.heap.size w wr) (fun _ _ _ i _ => k - (intOf i).toNat)
      case atStart => exact ⟨[], [], .slice none 0 0, by simp, rfl, by simp [sumLen], trivial, hN, World.ownsRow_nil _ _ _ _, fun _ => rfl, trivial, hb⟩
      case round =>
        clear hN hb hbw
        obtain ⟨us, bs, pv, hul, rfl, rfl, hLF, hN, hown, hpv, hTr, hb⟩ := hrel
        have hbw := hN.lt
        by_cases hlt2 : us.length < k
        · have hlt3 : ((us.length : Nat) : Int) < (k : Int) := by omega
          have hb6 := hN.parts
          have hf6 := hN.free 6
          go_wp2_with fail
          refine (ih (a + 1 + n + sumLen us) (by omega) _ _ (by push_cast; rfl)).mono ?_
          rintro e w1 ⟨⟨t, b', ht, hl, rfl, hT⟩ | ⟨hno, rfl⟩, hb1⟩
          · have hown1 := own_below hown hb1
            have hN1 := hN.grown hb1
            have hsz1 := hb1.size
            have hTr1 := hTr.map (fun t b h => (Tree.grown hb1 t b h).weaken (S' := fun q => (w.heap.size < q ∧ some q ≠ pv.ownBlock) ∧ q < w1.heap.size) (fun q hq hl => ⟨hq, hl⟩))
            have hT1 := hT.weaken (S' := fun q => (w.heap.size < q ∧ some q ≠ pv.ownBlock) ∧ q < w1.heap.size) (fun q hq hl => ⟨⟨by omega, fun e => by have := (hown.lt q e.symm).2; omega⟩, hl⟩)
            have hl2 := LieFrom.snoc us _ t hLF ht hl
            have hne1 : some w.heap.size ≠ pv.ownBlock := fun e => by have := (hown.lt _ e.symm).1; omega
            have g6 := hN1.parts
            have gf6 := hN1.free 6
            have HW := Lib.hid hl
            clear hb6 hf6 hT hTr hl
            go_wp2_with (first
              | (at_builtin; refine wpList_append_own_at _ rfl _ _ _ rfl (w.heap.size + 1) 44 i0 (.pointer none) 1 8 (by kernel_rfl) hi hz0 hz1 hz2 rfl (by decide) _ _ _ rfl (hown1.alloc _) ⟨w1.heap.size, 0, none⟩ 1 1 [ptr b'] rfl rfl ?c1 ?c2 ?c3 ?c4 ?c5 ?_)
              | go_in)
            case c1 =>
              intro j x hj
              match j, hj with
              | 0, hj => simp at hj; subst hj; simp [Addr.add, ptr]
            case c2 => intro x hx; simp at hx; subst hx; rfl
            case c3 => unfold maxLen; omega
            case c4 => omega
            case c5 => simp; omega
            intro v' w2 hown2 hgrow _ hat
            obtain ⟨g', cap', rfl⟩ := own_form hown2 (by omega)
            have hsame : ∀ q, q < w1.heap.size → some q ≠ pv.ownBlock → w2.heap[q]? = w1.heap[q]? := fun q hq hne => (hgrow.block q (by simp; omega) hne).trans (Below.heap_alloc w1 _ q hq)
            have hN2 := hN1.kept (hsame _ (by omega) hne1)
            have hsz2 : w1.heap.size ≤ w2.heap.size := by have := hgrow.size; simp at this; omega
            have hne2 : (Value.slice (some ⟨g', 0, none⟩) (us.length + 1) cap').ownBlock ≠ some w.heap.size := by
              rcases hat with e | e
              · rw [e]; exact fun h => hne1 h.symm
              · rw [e]; simp; omega
            have hT2 := Trees.snoc us bs t b' hTr1 hT1
            have hT3 := hT2.map (fun t b h => (Tree.kept (fun q hq _ => hsame q hq.2 hq.1.2) t b h).weaken (S' := fun q => w.heap.size < q ∧ some q ≠ (Value.slice (some ⟨g', 0, none⟩) (us.length + 1) cap').ownBlock) (fun q hq _ => ⟨hq.1.1, fun e => by
              rcases hat with h | h
              · rw [h] at e; exact hq.1.2 e
              · rw [h] at e; simp at e; omega⟩))
            have hb2 : Below w.heap.size w w2 := (below_new (below_step hb hb1) _).grown hgrow (by simp; omega) (fun q hq => by have := (hown1.lt q hq).1; omega)
            have hown3 : w2.ownsRow (w.heap.size + 1) 44 1 (Value.slice (some ⟨g', 0, none⟩) (us.length + 1) cap') (us ++ [t]).length ((bs ++ [b']).map ptr) := by
              rw [List.length_append, List.map_append]; exact hown2
            have k6 := hN2.parts
            have kf6 := hN2.free 6
            clear g6 gf6 hT2 hTr1 hT1 hgrow hat hown2 hown hown1 hN hN1 hsame hb hb1
            go_wp2_with fail
            go_roundw
            case rel => exact ⟨us ++ [t], bs ++ [b'], Value.slice (some ⟨g', 0, none⟩) (us.length + 1) cap', by simp; omega, by simp, by rw [sumLen_app]; simp [sumLen]; omega, hl2, hN2.setParts _, ownsRow_setCell_other hown3 hne2 _, fun h => by simp at h, hT3.map (fun t b h => Tree.kept (fun q hq _ => heap_setCell_other w2 _ q _ (by have := hq.1; simp; omega)) t b h), below_setAt hb2 _ _ (Nat.le_refl _) _⟩
            case measure => simp [intOf]; omega
          · go_wp2_with fail
            go_ret2
            exact ⟨.inr ⟨nothing_part HS.out hLF hlt2 hno, rfl⟩, below_step hb hb1⟩
        · obtain rfl : us.length = k := by omega
          have hx7 := hN.text
          have hf7 := hN.free 7
          have hb3 := below_setAt hb w.heap.size 7 (Nat.le_refl _)
          obtain ⟨t0, ht0, hl0, hlen0, -⟩ := tree_made HS.out HDO.out hLF hN pAt_last (fun q hq => rAt_rel q hq) hown hpv (S := fun q => w.heap.size ≤ q) (hTr.map (fun t b h => h.weaken (fun q hq _ => by have := hq.1; omega))) (Nat.le_refl _) (fun g hg => by have := (hown.lt g hg).1; omega)
          have hsz0 := hl0.size
          have q1 : (a : Int) ≤ (a : Int) + 1 + (n : Int) + (sumLen us : Nat) := by omega
          have q2 : (a : Int) + 1 + (n : Int) + (sumLen us : Nat) ≤ (c.size : Int) := by omega
          have q3 : ((a : Int) + 1 + (n : Int) + (sumLen us : Nat)).toNat = a + t0.len := by omega
          have q4 : (a : Int) + 1 + (n : Int) + (sumLen us : Nat) = ((a + t0.len : Nat) : Int) := by omega
          have HX := Lib.hid (extract_lies hl0)
          rw [hlen0] at HX
          have HQ := Lib.hid q4
          have hfin : ∃ t : Ct, t.WF ∧ LiesAt c a t ∧ t.len = 1 + n + sumLen us ∧ (t0.text = t.text → Tree (wr.setCell ⟨w.heap.size, 7, none⟩ (.string t0.text)) (fun q => w.heap.size ≤ q) t w.heap.size) :=
            tree_made HS.out HDO.out hLF (hN.setText t0.text) pAt_last (fun q hq => rAt_rel q hq) (ownsRow_setCell_other hown (fun e => by have := (hown.lt _ e).1; simp at this; omega) _) hpv (hTr.map (fun t b h => (Tree.kept (fun q hq _ => heap_setCell_other wr _ q _ (by have := hq.1; simp; omega)) t b h).weaken (fun q hq _ => by have := hq.1; omega))) (Nat.le_refl _) (fun g hg => by have := (hown.lt g hg).1; omega)
          obtain ⟨t1, ht1, hl1, -, hT1⟩ := hfin
          obtain rfl := hl0.uniq hl1 ht0 ht1
          have HT := Lib.hid (hT1 rfl)
          clear hT1 hl1 ht1 q4 hTr hown hN
          go_wp2_with fail
          rw [HX.out]
          go_ret2
          rw [HQ.out]
          exact ⟨.inl ⟨t0, w.heap.size, ht0, hl0, rfl, HT.out⟩, hb3 _⟩

theorem impl_readFrom (c : ByteArray) (hc : c.size ≤ 200) : ∀ (m a : Nat), c.size - a ≤ m → ∀ (i : Int) (w : World), i = a → Calls Tryz.prog 54 #[.string c, .int .i64 i] w (RdPost c a w) := by
  intro m
  induction m with
  | zero =>
    intro a hm i w hi
    subst hi
    have hno := nothing_past (c := c) (a := a) (by omega)
    go_enter Tryz.func54, Tryz.ntmps54
    go_wp2_with fail
    go_ret2
    exact ⟨.inr ⟨hno, rfl⟩, Below.refl _ _⟩
  | succ m ih =>
    intro a hm i w hi
    subst hi
    by_cases ha : a < c.size
    · cases hs : shp (bt c a) with
      | none =>
        have hno := Lib.hid (nothing_shape hs)
        have HI := Lib.hid (shpI_none hs)
        clear hs
        go_enter Tryz.func54, Tryz.ntmps54
        go_wp2_with fail
        refine (impl_shapeOf _ _).mono ?_
        rintro e w' ⟨rfl, rfl⟩
        rw [HI.out]
        go_wp2_with fail
        go_ret2
        exact ⟨.inr ⟨hno.out, rfl⟩, Below.refl _ _⟩
      | some kn =>
        obtain ⟨k, n⟩ := kn
        have hkn := shp_le hs
        by_cases hsz : a + 1 + n ≤ c.size
        · have ih' : ∀ (a' : Nat), a < a' → ∀ (i : Int) (w : World), i = a' → Calls Tryz.prog 54 #[.string c, .int .i64 i] w (RdPost c a' w) := fun a' ha' => ih a' (by omega)
          by_cases h4 : n = 4
          · subst h4; exact impl_readFrom_4 c hc a k hs hsz ih' w
          · exact impl_readFrom_n c hc a k n hkn.2 h4 hs hsz ih' w
        · have hno := Lib.hid (nothing_dig hs (Bool.eq_false_iff.2 fun h => hsz (digOk_size h)))
          have HI := Lib.hid (shpI_some hs)
          clear hs
          go_enter Tryz.func54, Tryz.ntmps54
          go_wp2_with fail
          refine (impl_shapeOf _ _).mono ?_
          rintro e w' ⟨rfl, rfl⟩
          rw [HI.out]
          go_wp2_with fail
          go_ret2
          exact ⟨.inr ⟨hno.out, rfl⟩, Below.refl _ _⟩
    · have hno := nothing_past (c := c) (a := a) (by omega)
      go_enter Tryz.func54, Tryz.ntmps54
      go_wp2_with fail
      go_ret2
      exact ⟨.inr ⟨hno, rfl⟩, Below.refl _ _⟩
end Go.Proofs.YtaeibhpkcikaaaaGreatDoor
