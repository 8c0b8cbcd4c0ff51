/- Contracts: the drawing of contracts. -/
import Derived.Test.YtaeibhpkcikaaaaGreatDoorDraw6a
import Derived.Test.YtaeibhpkcikaaaaGreatDoorDraw6b
import Derived.Test.YtaeibhpkcikaaaaGreatDoorDraw6c
import Derived.Test.YtaeibhpkcikaaaaGreatDoorGM
import Derived.OwnWalk
/- Draw6d -/
namespace Go.Proofs.YtaeibhpkcikaaaaGreatDoor
set_option linter.unusedVariables false
set_option linter.unusedSimpArgs false
open Go.RowKit Go.Shelf

theorem l5Draw_at (d : Nat) : d ≤ 4 → ∀ (loops : Bool) (b n p : Nat) (sl : Value) (w : World), Rd w b sl n p → ∀ x : Int, x = d → p + dAsk d ≤ 600000 → Calls Tryz.prog 32 #[.pointer (some ⟨b, 0, none⟩), .int .i64 x, .bool loops] w (DrEnd (dLen d) (dAsk d) b n p sl w) := by
  induction d with
  | zero =>
    intro hd loops b n p sl w h x hx hp
    subst hx
    obtain ⟨v, hv, hpk⟩ := pick_det b n p 16 sl w h (by omega) (by decide) (by decide)
    exact l5Draw_leaf0 0 loops rfl b n p sl w h hp v hv hpk
  | succ d ih =>
    intro hd loops b n p sl w h x hx hp
    subst hx
    obtain ⟨v, hv, hpk⟩ := pick_det b n p 16 sl w h (by omega) (by decide) (by decide)
    have IH : DrawsAt d loops := ih (by omega) loops
    clear ih
    by_cases h1 : v < 3
    · exact l5Draw_leaf1 (d + 1) loops (by omega) b n p sl w h hp v hv h1 hpk
    by_cases h2 : v < 7
    · exact l5Draw_seq d hd loops IH b n p sl w h hp v hv h1 h2 hpk
    by_cases h3 : v < 9
    · exact l5Draw_dem d hd loops IH b n p sl w h hp v hv h1 h2 h3 hpk
    by_cases h4 : v < 11
    · exact l5Draw_ang d hd loops IH b n p sl w h hp v hv h1 h2 h3 h4 hpk
    by_cases h5 : v < 13
    · exact l5Draw_if1 d hd loops IH b n p sl w h hp v hv h1 h2 h3 h4 h5 hpk
    cases loops
    · exact l5Draw_if2 d hd IH b n p sl w h hp v hv h1 h2 h3 h4 h5 hpk
    by_cases h6 : v < 14
    · exact l5Draw_while d hd IH b n p sl w h hp v hv h1 h2 h3 h4 h5 h6 hpk
    · exact l5Draw_rep d hd IH b n p sl w h hp v hv h1 h2 h3 h4 h5 h6 hpk
end Go.Proofs.YtaeibhpkcikaaaaGreatDoor

/- Draw7 -/
namespace Go.Proofs.YtaeibhpkcikaaaaGreatDoor
set_option linter.unusedVariables false
set_option linter.unusedSimpArgs false
open Go.RowKit Go.Shelf
set_option maxRecDepth 100000
set_option maxHeartbeats 4000000

theorem of3_at (b n p : Nat) (sl : Value) (w : World) (z0 z1 z2 : ByteArray) (h : Rd w b sl n p) (hp : p ≤ 800000) (h0 : z0.size = 1) (h1 : z1.size = 1) (h2 : z2.size = 1) :
    Calls Tryz.prog 36 #[.pointer (some ⟨b, 0, none⟩), .slice (some ⟨w.heap.size, 0, none⟩) 3 3] (w.alloc (.cells #[.string z0, .string z1, .string z2] 9)) fun e w' =>
      (∃ s : ByteArray, s.size = 1 ∧ e = .returned (.string s)) ∧ Rd w' b sl n (p + 1) ∧ Below b w w' := by
  have hlt := h.lt
  refine (of_at b n p 3 w.heap.size 3 sl (fun j => if j = 0 then z0 else if j = 1 then z1 else z2) _ (h.old _) (by omega) (by decide) (by decide) (by omega) ?_).mono ?_
  · intro j hj
    rw [cell_of_row _ _ j _ _ _ (heap_alloc_new w _)]
    obtain rfl | rfl | rfl : j = 0 ∨ j = 1 ∨ j = 2 := by omega
    all_goals rfl
  · rintro e w' ⟨⟨j, hj, rfl⟩, hP⟩
    refine ⟨⟨_, ?_, rfl⟩, hP.rd, ((Below.refl b w).alloc (Nat.le_of_lt hlt) _).trans hP.below⟩
    obtain rfl | rfl | rfl : j = 0 ∨ j = 1 ∨ j = 2 := by omega
    all_goals (simp; assumption)
def BadEnd (B b n p : Nat) (sl : Value) (w : World) (e : Ending) (w' : World) : Prop := (∃ s : ByteArray, s.size ≤ B ∧ e = .returned (.string s)) ∧ ∃ q, q ≤ p + 3 ∧ Rd w' b sl n q ∧ Below b w w'
theorem l5Bad_at (b n p : Nat) (sl : Value) (c : ByteArray) (hc1 : 1 ≤ c.size) (hc2 : c.size ≤ 900) (w : World) (h : Rd w b sl n p) (hp : p ≤ 700000) :
    Calls Tryz.prog 31 #[.pointer (some ⟨b, 0, none⟩), .string c] w (BadEnd 1000 b n p sl w) := by
  go_enter Tryz.func31, Tryz.ntmps31
  go_wp2_with fail
  refine (pick_at b n p 30 sl w h (by omega) (by decide) (by decide)).mono ?_
  rintro e w1 ⟨⟨v, rfl, hv⟩, hP⟩
  have H1 := hP.rd
  have hb1 := hP.below
  clear h hP
  obtain h2 | h2 | h2 | h2 : v = 0 ∨ v = 1 ∨ v = 2 ∨ 3 ≤ v := by omega
  · subst h2
    go_wp2_with fail
    refine (of3_at b n (p + 1) sl w1 ⟨#[115]⟩ ⟨#[48]⟩ ⟨#[32]⟩ H1 (by omega) rfl rfl rfl).mono ?_
    rintro e w2 ⟨⟨s, hs, rfl⟩, H2, hb2⟩
    have hs1 : s.size ≤ 1 := by omega
    go_wp2_with fail
    go_ret
    exact ⟨⟨_, by simp only [ByteArray.size_append]; omega, rfl⟩, _, by omega, H2, hb1.trans hb2⟩
  · subst h2
    go_wp2_with fail
    go_ret
    exact ⟨⟨_, by simp only [ByteArray.size_extract]; omega, rfl⟩, _, by omega, H1, hb1⟩
  · subst h2
    go_wp2_with fail
    refine (pick_at b n _ c.size sl _ H1 (by omega) hc1 (by omega)).mono ?_
    rintro e w2 ⟨⟨k, rfl, hk⟩, hP⟩
    have H2 := hP.rd
    have hb2 := hb1.trans hP.below
    clear H1 hb1 hP
    have hki : (k : Int) < (c.size : Int) := by omega
    have hk1 : (k : Int) + 1 ≤ (c.size : Int) := by omega
    have hk2 : ((k : Int) + 1).toNat = k + 1 := by omega
    have hz1 : (c.extract 0 k).size ≤ 900 := by rw [ByteArray.size_extract]; omega
    have hz2 : (c.extract (k + 1) c.size).size ≤ 900 := by rw [ByteArray.size_extract]; omega
    go_wp2_with fail
    refine wp_region_held_drew (S := fun _ => True) (by kernel_rfl) ?_ (fun hS => ?_)
    · exact trivial
    refine wpAnyH_take (i := 0) (v := .string c) rfl (by kernel_rfl) (by kernel_rfl) (by kernel_rfl) (fun _ _ _ h => h) (Or.inl ⟨by rfl, ?_⟩) hS ?_
    · intro w hSw
      go_simp
    simp only [Act.put, List.getElem_toArray, List.getElem_cons_succ, List.getElem_cons_zero, List.setIfInBounds_toArray, List.set_cons_zero, List.set_cons_succ]
    refine wpAnyH_take (i := 1) (v := .int .i64 k) rfl (by kernel_rfl) (by kernel_rfl) (by kernel_rfl) (fun _ _ _ h => h) (Or.inl ⟨by rfl, ?_⟩) hS ?_
    · intro w hSw
      go_simp
    simp only [Act.put, List.getElem_toArray, List.getElem_cons_succ, List.getElem_cons_zero, List.setIfInBounds_toArray, List.set_cons_zero, List.set_cons_succ]
    refine wpAnyH_take (i := 2) (v := .string (c.extract 0 k)) rfl (by kernel_rfl) (by kernel_rfl) (by kernel_rfl) (fun _ _ _ h => h) (Or.inl ⟨by rfl, ?_⟩) hS ?_
    · intro w hSw
      go_simp
      all_goals (intros; omega)
    simp only [Act.put, List.getElem_toArray, List.getElem_cons_succ, List.getElem_cons_zero, List.setIfInBounds_toArray, List.set_cons_zero, List.set_cons_succ]
    refine wpAnyH_take (i := 3) (v := .pointer (some ⟨b, 0, none⟩)) rfl (by kernel_rfl) (by kernel_rfl) (by kernel_rfl) (fun _ _ _ h => h) (Or.inl ⟨by rfl, ?_⟩) hS ?_
    · intro w hSw
      go_simp
    simp only [Act.put, List.getElem_toArray, List.getElem_cons_succ, List.getElem_cons_zero, List.setIfInBounds_toArray, List.set_cons_zero, List.set_cons_succ]
    refine wpAnyH_take (i := 7) (v := .string c) rfl (by kernel_rfl) (by kernel_rfl) (by kernel_rfl) (fun _ _ _ h => h) (Or.inl ⟨by rfl, ?_⟩) hS ?_
    · intro w hSw
      go_simp
    simp only [Act.put, List.getElem_toArray, List.getElem_cons_succ, List.getElem_cons_zero, List.setIfInBounds_toArray, List.set_cons_zero, List.set_cons_succ]
    refine wpAnyH_take (i := 8) (v := .int .i64 k) rfl (by kernel_rfl) (by kernel_rfl) (by kernel_rfl) (fun _ _ _ h => h) (Or.inl ⟨by rfl, ?_⟩) hS ?_
    · intro w hSw
      go_simp
    simp only [Act.put, List.getElem_toArray, List.getElem_cons_succ, List.getElem_cons_zero, List.setIfInBounds_toArray, List.set_cons_zero, List.set_cons_succ]
    refine wpAnyH_take (i := 9) (v := .int .i64 ((k : Int) + 1)) rfl (by kernel_rfl) (by kernel_rfl) (by kernel_rfl) (fun _ _ _ h => h) (Or.inl ⟨by rfl, ?_⟩) hS ?_
    · intro w hSw
      go_simp
      all_goals (rw [IntKind.wrap_i64]; omega)
    simp only [Act.put, List.getElem_toArray, List.getElem_cons_succ, List.getElem_cons_zero, List.setIfInBounds_toArray, List.set_cons_zero, List.set_cons_succ]
    refine wpAnyH_take (i := 10) (v := .string (c.extract (k + 1) c.size)) rfl (by kernel_rfl) (by kernel_rfl) (by kernel_rfl) (fun _ _ _ h => h) (Or.inl ⟨by rfl, ?_⟩) hS ?_
    · intro w hSw
      go_simp
      all_goals (intros; omega)
    simp only [Act.put, List.getElem_toArray, List.getElem_cons_succ, List.getElem_cons_zero, List.setIfInBounds_toArray, List.set_cons_zero, List.set_cons_succ]
    refine wpAnyH_ready (rs := [4]) (by kernel_rfl) (by simp) ?_
    refine AllReadyH.cons rfl (fun K hK => ?_) AllReadyH.nil
    rw [if_pos (by rfl)]
    unfold Oper.wp
    go_simp
    refine hK.out _ (w2.drew.alloc (Obj.cells #[.string ⟨#[122]⟩, .string ⟨#[48]⟩, .string ⟨#[59]⟩, .string ⟨#[65]⟩] 9)) trivial (fun _ => ?_)
    clear hK K
    try simp only [Act.put, List.getElem_toArray, List.getElem_cons_succ, List.getElem_cons_zero, List.setIfInBounds_toArray, List.set_cons_zero, List.set_cons_succ]
    refine wpAnyH_ready (rs := [5]) (by kernel_rfl) (by simp) ?_
    refine AllReadyH.cons rfl (fun K hK => ?_) AllReadyH.nil
    rw [if_pos (by rfl)]
    refine op_call 36 _ _ rfl (enters_of Tryz.func36 (by kernel_rfl) rfl) _ (of4_at b n _ sl w2.drew ⟨#[122]⟩ ⟨#[48]⟩ ⟨#[59]⟩ ⟨#[65]⟩ H2.drew (by omega) rfl rfl rfl rfl) rfl ?_
    rintro e w4 ⟨⟨s, hs, rfl⟩, H4, hb4⟩
    refine ⟨_, rfl, ?_⟩
    refine hK.out _ _ trivial (fun _ => ?_)
    clear hK K
    try simp only [Act.put, List.getElem_toArray, List.getElem_cons_succ, List.getElem_cons_zero, List.setIfInBounds_toArray, List.set_cons_zero, List.set_cons_succ]
    have hs1 : s.size ≤ 1 := by omega
    refine wpAnyH_take (i := 6) (v := .string (c.extract 0 k ++ s)) rfl (by kernel_rfl) (by kernel_rfl) (by kernel_rfl) (fun _ _ _ h => h) (Or.inl ⟨by rfl, ?_⟩) hS ?_
    · intro w hSw
      go_simp
      all_goals (intros; omega)
    simp only [Act.put, List.getElem_toArray, List.getElem_cons_succ, List.getElem_cons_zero, List.setIfInBounds_toArray, List.set_cons_zero, List.set_cons_succ]
    refine wpAnyH_take (i := 11) (v := .string (c.extract 0 k ++ s ++ c.extract (k + 1) c.size)) rfl (by kernel_rfl) (by kernel_rfl) (by kernel_rfl) (fun _ _ _ h => h) (Or.inl ⟨by rfl, ?_⟩) hS ?_
    · intro w hSw
      go_simp
      all_goals (intros; omega)
    simp only [Act.put, List.getElem_toArray, List.getElem_cons_succ, List.getElem_cons_zero, List.setIfInBounds_toArray, List.set_cons_zero, List.set_cons_succ]
    refine wpAnyH_take (i := 12) (v := .string (c.extract 0 k ++ s ++ c.extract (k + 1) c.size)) rfl (by kernel_rfl) (by kernel_rfl) (by kernel_rfl) (fun _ _ _ h => h) (Or.inl ⟨by rfl, ?_⟩) hS ?_
    · intro w hSw
      go_simp
    simp only [Act.put, List.getElem_toArray, List.getElem_cons_succ, List.getElem_cons_zero, List.setIfInBounds_toArray, List.set_cons_zero, List.set_cons_succ]
    refine wpAnyH_done (by kernel_rfl) ?_ _
    go_wp2_with fail
    go_ret
    exact ⟨⟨_, by simp only [ByteArray.size_append, ByteArray.size_extract]; omega, rfl⟩, _, by omega, H4, hb2.trans ((Below.refl _ _).drew.trans hb4)⟩
  · have e0 : ((v : Int) == 0) = false := by rw [beq_eq_false_iff_ne]; omega
    have e1 : ((v : Int) == 1) = false := by rw [beq_eq_false_iff_ne]; omega
    have e2 : ((v : Int) == 2) = false := by rw [beq_eq_false_iff_ne]; omega
    go_wp2_with fail
    go_ret
    exact ⟨⟨c, by omega, rfl⟩, p + 1, by omega, H1, hb1⟩
theorem Rd.grown {w w' : World} {b n p : Nat} {sl : Value} (h : Rd w b sl n p) (hb : Below w.heap.size w w') : Rd w' b sl n p := h.keep (hb.mono (Nat.le_of_lt h.lt)) (hb.block b h.lt)
theorem l6Picks_at (b n p : Nat) (sl : Value) (w : World) (h : Rd w b sl n p) (hp : p ≤ 400000) :
    Calls Tryz.prog 37 #[.pointer (some ⟨b, 0, none⟩)] w fun e w' => (∃ s : ByteArray, s.size ≤ 10 ∧ e = .returned (.string s)) ∧ ∃ q, q ≤ p + 50 ∧ Rd w' b sl n q ∧ Below b w w' := by
  go_enter Tryz.func37, Tryz.ntmps37
  go_wp2_with fail
  refine (pick_at b n p 7 sl w h (by omega) (by decide) (by decide)).mono ?_
  rintro e w1 ⟨⟨v, rfl, hv⟩, hP⟩
  have H1 := hP.rd
  have hb1 := hP.below
  clear h hP
  go_wp2_with fail
  go_loopw [3, 4] (fun o i wr => ∃ (k q : Nat) (T : ByteArray), k ≤ 7 ∧ i = .int .i64 k ∧ o = .string T ∧ T.size + k ≤ 7 ∧ q + 2 * k ≤ p + 20 ∧ Rd wr b sl n q ∧ Below b w wr) (fun _ i _ => (intOf i).toNat)
  case atStart => exact ⟨v, p + 1, ⟨#[]⟩, by omega, rfl, rfl, by show 0 + v ≤ 7; omega, by omega, H1, hb1⟩
  case round =>
    clear H1 hb1
    obtain ⟨k, q, T, hk, rfl, rfl, hT, hq, H, hb⟩ := hrel
    rcases Nat.eq_zero_or_pos k with hk0 | hpos
    · have hk1 : ¬ (0 : Int) < (k : Int) := by omega
      go_wp2_with fail
      go_ret
      exact ⟨⟨T, by omega, rfl⟩, q, by omega, H, hb⟩
    · have hk1 : (0 : Int) < (k : Int) := by omega
      have hT7 : T.size ≤ 7 := by omega
      go_wp2_with fail
      refine (pick_at b n q 3 sl _ H (by omega) (by decide) (by decide)).mono ?_
      rintro e w2 ⟨⟨x, rfl, hx⟩, hP⟩
      have H2 := hP.rd
      have hb2 := hb.trans hP.below
      clear hP H hb
      go_wp2_with fail
      have hx2 : (2 : Int) + (x : Int) = ((2 + x : Nat) : Int) := by push_cast; rfl
      rw [hx2]
      refine (pick_at b n (q + 1) (2 + x) sl _ H2 (by omega) (by omega) (by omega)).mono ?_
      rintro e w3 ⟨⟨y, rfl, hy⟩, hP⟩
      have H3 := hP.rd
      have hb3 := hb2.trans hP.below
      clear hP H2 hb2 hx2
      go_wp2_with fail
      refine (spec_l14Dec y (by omega) _).mono ?_
      rintro e w4 ⟨rfl, hb4⟩
      have H4 := H3.grown hb4
      have hb5 := hb3.trans (hb4.mono (Nat.le_of_lt H3.lt))
      go_wp2_with fail
      go_roundw
      case rel => exact ⟨k - 1, q + 1 + 1, _, by omega, by congr 1; omega, rfl, by rw [ByteArray.size_append]; show T.size + 1 + (k - 1) ≤ 7; omega, by omega, H4, hb5⟩
      case measure => simp [intOf]; omega
end Go.Proofs.YtaeibhpkcikaaaaGreatDoor
