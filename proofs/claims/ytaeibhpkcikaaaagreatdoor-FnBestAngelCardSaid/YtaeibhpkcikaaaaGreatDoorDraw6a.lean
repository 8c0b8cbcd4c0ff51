/- Contracts: the drawing of contracts: the statements without parts. -/
import Derived.Test.YtaeibhpkcikaaaaGreatDoorDraw6
namespace Go.Proofs.YtaeibhpkcikaaaaGreatDoor
set_option linter.unusedVariables false
set_option linter.unusedSimpArgs false
open Go.RowKit Go.Shelf
set_option maxRecDepth 100000
set_option maxHeartbeats 8000000

theorem l5Draw_leaf0 (d : Nat) (loops : Bool) (hd0 : d = 0) (b n p : Nat) (sl : Value) (w : World) (h : Rd w b sl n p) (hp : p + dAsk d ≤ 600000) (v : Nat) (hv : v < 16) (hpk : PickIs b n p sl w v) :
    Calls Tryz.prog 32 #[.pointer (some ⟨b, 0, none⟩), .int .i64 d, .bool loops] w (DrEnd (dLen d) (dAsk d) b n p sl w) := by
  have hge := dLen_ge d
  have hask := dAsk_ge d
  have hdi : (d : Int) ≤ 0 := by omega
  go_enter Tryz.func32, Tryz.ntmps32
  go_wp2_with fail
  refine hpk.mono ?_
  rintro e w1 ⟨rfl, hP⟩
  have H1 := hP.rd
  have hb1 := hP.below
  clear h hP hpk
  go_wp2_with fail
  refine (pick_at b n (p + 1) 16 sl _ H1 (by omega) (by decide) (by decide)).mono ?_
  rintro e w2 ⟨⟨y, rfl, hy⟩, hP⟩
  have H2 := hP.rd
  have hbA := hb1.trans hP.below
  clear H1 hb1 hP
  go_wp2_with fail
  have hcy := natC hy
  refine (spec_l2Digit _ _ hcy.1 hcy.2).mono ?_
  rintro e w' ⟨rfl, rfl⟩
  have hg1 : (dgs (y : Int)).size = 1 := rfl
  generalize dgs (y : Int) = G at *
  have hG : G.size ≤ 1 := by omega
  go_wp2_with fail
  refine (pick_at b n (p + 1 + 1) 8 sl _ H2 (by omega) (by decide) (by decide)).mono ?_
  rintro e w3 ⟨⟨u, rfl, hu⟩, hP⟩
  have H3 := hP.rd
  have hb3 := hbA.trans hP.below
  clear hP H2 hbA
  obtain h0 | h0 | h0 | h0 | h0 | h0 : u = 0 ∨ u = 1 ∨ u = 2 ∨ u = 3 ∨ u = 4 ∨ 5 ≤ u := by omega
  · subst h0
    go_wp2_with fail
    refine (of4_at b n (p + 1 + 1 + 1) sl w3 ⟨#[115]⟩ ⟨#[97]⟩ ⟨#[109]⟩ ⟨#[115]⟩ H3 (by omega) rfl rfl rfl rfl).mono ?_
    rintro e w4 ⟨⟨s, hs, rfl⟩, H4, hb4⟩
    go_wp2_with fail
    go_ret
    exact ⟨⟨s, by omega, by omega, rfl⟩, _, by omega, H4, hb3.trans hb4⟩
  · subst h0
    go_wp2_with fail
    go_ret
    exact ⟨⟨_, by simp only [ByteArray.size_append, sz1]; omega, by simp only [ByteArray.size_append, sz1]; omega, rfl⟩, _, by omega, H3, hb3⟩
  · subst h0
    go_wp2_with fail
    go_ret
    exact ⟨⟨_, by simp only [ByteArray.size_append, sz1]; omega, by simp only [ByteArray.size_append, sz1]; omega, rfl⟩, _, by omega, H3, hb3⟩
  · subst h0
    go_wp2_with fail
    refine (l2Some_at b n _ sl _ H3 (by omega)).mono ?_
    rintro e w4 ⟨⟨f, hf, rfl⟩, q, hq, H4, hb4⟩
    have hf4 := txt_size 4 f
    generalize txt 4 f = T4 at *
    have hT4 : T4.size ≤ 4 := by omega
    go_wp2_with fail
    go_ret
    exact ⟨⟨_, by simp only [ByteArray.size_append, sz1]; omega, by simp only [ByteArray.size_append, sz1]; omega, rfl⟩, q, by omega, H4, hb3.trans hb4⟩
  · subst h0
    go_wp2_with fail
    refine (l2Some_at b n _ sl _ H3 (by omega)).mono ?_
    rintro e w4 ⟨⟨f, hf, rfl⟩, q, hq, H4, hb4⟩
    have hf4 := txt_size 4 f
    generalize txt 4 f = T4 at *
    have hT4 : T4.size ≤ 4 := by omega
    go_wp2_with fail
    go_ret
    exact ⟨⟨_, by simp only [ByteArray.size_append, sz1]; omega, by simp only [ByteArray.size_append, sz1]; omega, rfl⟩, q, by omega, H4, hb3.trans hb4⟩
  · have e0 : ((u : Int) == 0) = false := by rw [beq_eq_false_iff_ne]; omega
    have e1 : ((u : Int) == 1) = false := by rw [beq_eq_false_iff_ne]; omega
    have e2 : ((u : Int) == 2) = false := by rw [beq_eq_false_iff_ne]; omega
    have e3 : ((u : Int) == 3) = false := by rw [beq_eq_false_iff_ne]; omega
    have e4 : ((u : Int) == 4) = false := by rw [beq_eq_false_iff_ne]; omega
    go_wp2_with fail
    refine (l2Some_at b n _ sl _ H3 (by omega)).mono ?_
    rintro e w4 ⟨⟨f, hf, rfl⟩, q, hq, H4, hb4⟩
    have hf4 := txt_size 4 f
    generalize txt 4 f = T4 at *
    have hT4 : T4.size ≤ 4 := by omega
    go_wp2_with fail
    go_ret
    exact ⟨⟨_, by simp only [ByteArray.size_append, sz1]; omega, by simp only [ByteArray.size_append, sz1]; omega, rfl⟩, q, by omega, H4, hb3.trans hb4⟩
theorem l5Draw_leaf1 (d : Nat) (loops : Bool) (hd0 : ¬ d = 0) (b n p : Nat) (sl : Value) (w : World) (h : Rd w b sl n p) (hp : p + dAsk d ≤ 600000) (v : Nat) (hv : v < 16) (hv3 : v < 3) (hpk : PickIs b n p sl w v) :
    Calls Tryz.prog 32 #[.pointer (some ⟨b, 0, none⟩), .int .i64 d, .bool loops] w (DrEnd (dLen d) (dAsk d) b n p sl w) := by
  have hge := dLen_ge d
  have hask := dAsk_ge d
  have hdi : ¬ (d : Int) ≤ 0 := by omega
  go_enter Tryz.func32, Tryz.ntmps32
  go_wp2_with fail
  refine hpk.mono ?_
  rintro e w1 ⟨rfl, hP⟩
  have H1 := hP.rd
  have hb1 := hP.below
  clear h hP hpk
  go_wp2_with fail
  refine (pick_at b n (p + 1) 16 sl _ H1 (by omega) (by decide) (by decide)).mono ?_
  rintro e w2 ⟨⟨y, rfl, hy⟩, hP⟩
  have H2 := hP.rd
  have hbA := hb1.trans hP.below
  clear H1 hb1 hP
  go_wp2_with fail
  have hcy := natC hy
  refine (spec_l2Digit _ _ hcy.1 hcy.2).mono ?_
  rintro e w' ⟨rfl, rfl⟩
  have hg1 : (dgs (y : Int)).size = 1 := rfl
  generalize dgs (y : Int) = G at *
  have hG : G.size ≤ 1 := by omega
  go_wp2_with fail
  refine (pick_at b n (p + 1 + 1) 8 sl _ H2 (by omega) (by decide) (by decide)).mono ?_
  rintro e w3 ⟨⟨u, rfl, hu⟩, hP⟩
  have H3 := hP.rd
  have hb3 := hbA.trans hP.below
  clear hP H2 hbA
  obtain h0 | h0 | h0 | h0 | h0 | h0 : u = 0 ∨ u = 1 ∨ u = 2 ∨ u = 3 ∨ u = 4 ∨ 5 ≤ u := by omega
  · subst h0
    go_wp2_with fail
    refine (of4_at b n (p + 1 + 1 + 1) sl w3 ⟨#[115]⟩ ⟨#[97]⟩ ⟨#[109]⟩ ⟨#[115]⟩ H3 (by omega) rfl rfl rfl rfl).mono ?_
    rintro e w4 ⟨⟨s, hs, rfl⟩, H4, hb4⟩
    go_wp2_with fail
    go_ret
    exact ⟨⟨s, by omega, by omega, rfl⟩, _, by omega, H4, hb3.trans hb4⟩
  · subst h0
    go_wp2_with fail
    go_ret
    exact ⟨⟨_, by simp only [ByteArray.size_append, sz1]; omega, by simp only [ByteArray.size_append, sz1]; omega, rfl⟩, _, by omega, H3, hb3⟩
  · subst h0
    go_wp2_with fail
    go_ret
    exact ⟨⟨_, by simp only [ByteArray.size_append, sz1]; omega, by simp only [ByteArray.size_append, sz1]; omega, rfl⟩, _, by omega, H3, hb3⟩
  · subst h0
    go_wp2_with fail
    refine (l2Some_at b n _ sl _ H3 (by omega)).mono ?_
    rintro e w4 ⟨⟨f, hf, rfl⟩, q, hq, H4, hb4⟩
    have hf4 := txt_size 4 f
    generalize txt 4 f = T4 at *
    have hT4 : T4.size ≤ 4 := by omega
    go_wp2_with fail
    go_ret
    exact ⟨⟨_, by simp only [ByteArray.size_append, sz1]; omega, by simp only [ByteArray.size_append, sz1]; omega, rfl⟩, q, by omega, H4, hb3.trans hb4⟩
  · subst h0
    go_wp2_with fail
    refine (l2Some_at b n _ sl _ H3 (by omega)).mono ?_
    rintro e w4 ⟨⟨f, hf, rfl⟩, q, hq, H4, hb4⟩
    have hf4 := txt_size 4 f
    generalize txt 4 f = T4 at *
    have hT4 : T4.size ≤ 4 := by omega
    go_wp2_with fail
    go_ret
    exact ⟨⟨_, by simp only [ByteArray.size_append, sz1]; omega, by simp only [ByteArray.size_append, sz1]; omega, rfl⟩, q, by omega, H4, hb3.trans hb4⟩
  · have e0 : ((u : Int) == 0) = false := by rw [beq_eq_false_iff_ne]; omega
    have e1 : ((u : Int) == 1) = false := by rw [beq_eq_false_iff_ne]; omega
    have e2 : ((u : Int) == 2) = false := by rw [beq_eq_false_iff_ne]; omega
    have e3 : ((u : Int) == 3) = false := by rw [beq_eq_false_iff_ne]; omega
    have e4 : ((u : Int) == 4) = false := by rw [beq_eq_false_iff_ne]; omega
    go_wp2_with fail
    refine (l2Some_at b n _ sl _ H3 (by omega)).mono ?_
    rintro e w4 ⟨⟨f, hf, rfl⟩, q, hq, H4, hb4⟩
    have hf4 := txt_size 4 f
    generalize txt 4 f = T4 at *
    have hT4 : T4.size ≤ 4 := by omega
    go_wp2_with fail
    go_ret
    exact ⟨⟨_, by simp only [ByteArray.size_append, sz1]; omega, by simp only [ByteArray.size_append, sz1]; omega, rfl⟩, q, by omega, H4, hb3.trans hb4⟩

end Go.Proofs.YtaeibhpkcikaaaaGreatDoor
