/- Contracts: the drawing of contracts: tests and loops. -/
import Derived.Test.YtaeibhpkcikaaaaGreatDoorDraw6
namespace Go.Proofs.YtaeibhpkcikaaaaGreatDoor
set_option linter.unusedVariables false
set_option linter.unusedSimpArgs false
open Go.RowKit Go.Shelf
set_option maxRecDepth 100000
set_option maxHeartbeats 8000000

theorem l5Draw_if1 (d' : Nat) (hd4 : d' + 1 ≤ 4) (loops : Bool) (IH : DrawsAt d' loops) (b n p : Nat) (sl : Value) (w : World) (h : Rd w b sl n p) (hp : p + dAsk (d' + 1) ≤ 600000) (v : Nat) (hv : v < 16) (h1 : ¬ v < 3) (h2 : ¬ v < 7) (h3 : ¬ v < 9) (h4 : ¬ v < 11) (h5 : v < 13) (hpk : PickIs b n p sl w v) :
    Calls Tryz.prog 32 #[.pointer (some ⟨b, 0, none⟩), .int .i64 ((d' + 1 : Nat) : Int), .bool loops] w (DrEnd (dLen (d' + 1)) (dAsk (d' + 1)) b n p sl w) := by
  have hLl := dLen_le (d := d') (by omega)
  have hdi : ¬ ((d' + 1 : Nat) : Int) ≤ 0 := by omega
  rw [show dLen (d' + 1) = 2 + 2 * dLen d' from rfl, show dAsk (d' + 1) = 25 + 2 * dAsk d' from rfl]
  rw [show dAsk (d' + 1) = 25 + 2 * dAsk d' from rfl] at hp
  replace IH := Lib.hid IH
  go_enter Tryz.func32, Tryz.ntmps32
  go_wp2_with fail
  refine hpk.mono ?_
  rintro e w1 ⟨rfl, hP⟩
  have H1 := hP.rd
  have hb1 := hP.below
  clear h hP hpk
  go_wp2_with fail
  refine (pick_at b n (p + 1) 16 sl _ H1 (by omega) (by decide) (by decide)).mono ?_
  rintro e w2 ⟨⟨y, rfl, hy⟩, hP⟩
  have H2 := hP.rd
  have hbA := hb1.trans hP.below
  clear H1 hb1 hP
  go_wp2_with fail
  have hcy := natC hy
  refine (spec_l2Digit _ _ hcy.1 hcy.2).mono ?_
  rintro e w' ⟨rfl, rfl⟩
  have hg1 : (dgs (y : Int)).size = 1 := rfl
  generalize dgs (y : Int) = G at *
  have hG : G.size ≤ 1 := by omega
  go_wp2_with fail
  refine (IH.out b n _ sl _ H2 _ rfl (by omega)).mono ?_
  rintro e w4 ⟨⟨s1, hs1a, hs1b, rfl⟩, q1, hq1, H4, hbH4⟩
  replace hbA := hbA.trans hbH4
  clear hbH4
  have hs1c : s1.size ≤ 200 := by omega
  go_wp2_with fail
  refine (IH.out b n _ sl _ H4 _ rfl (by omega)).mono ?_
  rintro e w5 ⟨⟨s2, hs2a, hs2b, rfl⟩, q2, hq2, H5, hbH5⟩
  replace hbA := hbA.trans hbH5
  clear hbH5
  have hs2c : s2.size ≤ 200 := by omega
  go_wp2_with fail
  go_ret
  exact ⟨⟨_, by simp only [ByteArray.size_append, sz1]; omega, by simp only [ByteArray.size_append, sz1]; omega, rfl⟩, q2, by omega, H5, hbA⟩
theorem l5Draw_if2 (d' : Nat) (hd4 : d' + 1 ≤ 4) (IH : DrawsAt d' false) (b n p : Nat) (sl : Value) (w : World) (h : Rd w b sl n p) (hp : p + dAsk (d' + 1) ≤ 600000) (v : Nat) (hv : v < 16) (h1 : ¬ v < 3) (h2 : ¬ v < 7) (h3 : ¬ v < 9) (h4 : ¬ v < 11) (h5 : ¬ v < 13) (hpk : PickIs b n p sl w v) :
    Calls Tryz.prog 32 #[.pointer (some ⟨b, 0, none⟩), .int .i64 ((d' + 1 : Nat) : Int), .bool false] w (DrEnd (dLen (d' + 1)) (dAsk (d' + 1)) b n p sl w) := by
  have hLl := dLen_le (d := d') (by omega)
  have hdi : ¬ ((d' + 1 : Nat) : Int) ≤ 0 := by omega
  rw [show dLen (d' + 1) = 2 + 2 * dLen d' from rfl, show dAsk (d' + 1) = 25 + 2 * dAsk d' from rfl]
  rw [show dAsk (d' + 1) = 25 + 2 * dAsk d' from rfl] at hp
  replace IH := Lib.hid IH
  go_enter Tryz.func32, Tryz.ntmps32
  go_wp2_with fail
  refine hpk.mono ?_
  rintro e w1 ⟨rfl, hP⟩
  have H1 := hP.rd
  have hb1 := hP.below
  clear h hP hpk
  go_wp2_with fail
  refine (pick_at b n (p + 1) 16 sl _ H1 (by omega) (by decide) (by decide)).mono ?_
  rintro e w2 ⟨⟨y, rfl, hy⟩, hP⟩
  have H2 := hP.rd
  have hbA := hb1.trans hP.below
  clear H1 hb1 hP
  go_wp2_with fail
  have hcy := natC hy
  refine (spec_l2Digit _ _ hcy.1 hcy.2).mono ?_
  rintro e w' ⟨rfl, rfl⟩
  have hg1 : (dgs (y : Int)).size = 1 := rfl
  generalize dgs (y : Int) = G at *
  have hG : G.size ≤ 1 := by omega
  go_wp2_with fail
  refine (IH.out b n _ sl _ H2 _ rfl (by omega)).mono ?_
  rintro e w4 ⟨⟨s1, hs1a, hs1b, rfl⟩, q1, hq1, H4, hbH4⟩
  replace hbA := hbA.trans hbH4
  clear hbH4
  have hs1c : s1.size ≤ 200 := by omega
  go_wp2_with fail
  refine (IH.out b n _ sl _ H4 _ rfl (by omega)).mono ?_
  rintro e w5 ⟨⟨s2, hs2a, hs2b, rfl⟩, q2, hq2, H5, hbH5⟩
  replace hbA := hbA.trans hbH5
  clear hbH5
  have hs2c : s2.size ≤ 200 := by omega
  go_wp2_with fail
  go_ret
  exact ⟨⟨_, by simp only [ByteArray.size_append, sz1]; omega, by simp only [ByteArray.size_append, sz1]; omega, rfl⟩, q2, by omega, H5, hbA⟩
theorem l5Draw_while (d' : Nat) (hd4 : d' + 1 ≤ 4) (IH : DrawsAt d' true) (b n p : Nat) (sl : Value) (w : World) (h : Rd w b sl n p) (hp : p + dAsk (d' + 1) ≤ 600000) (v : Nat) (hv : v < 16) (h1 : ¬ v < 3) (h2 : ¬ v < 7) (h3 : ¬ v < 9) (h4 : ¬ v < 11) (h5 : ¬ v < 13) (h6 : v < 14) (hpk : PickIs b n p sl w v) :
    Calls Tryz.prog 32 #[.pointer (some ⟨b, 0, none⟩), .int .i64 ((d' + 1 : Nat) : Int), .bool true] w (DrEnd (dLen (d' + 1)) (dAsk (d' + 1)) b n p sl w) := by
  have hLl := dLen_le (d := d') (by omega)
  have hdi : ¬ ((d' + 1 : Nat) : Int) ≤ 0 := by omega
  rw [show dLen (d' + 1) = 2 + 2 * dLen d' from rfl, show dAsk (d' + 1) = 25 + 2 * dAsk d' from rfl]
  rw [show dAsk (d' + 1) = 25 + 2 * dAsk d' from rfl] at hp
  replace IH := Lib.hid IH
  go_enter Tryz.func32, Tryz.ntmps32
  go_wp2_with fail
  refine hpk.mono ?_
  rintro e w1 ⟨rfl, hP⟩
  have H1 := hP.rd
  have hb1 := hP.below
  clear h hP hpk
  go_wp2_with fail
  refine (pick_at b n (p + 1) 16 sl _ H1 (by omega) (by decide) (by decide)).mono ?_
  rintro e w2 ⟨⟨y, rfl, hy⟩, hP⟩
  have H2 := hP.rd
  have hbA := hb1.trans hP.below
  clear H1 hb1 hP
  go_wp2_with fail
  have hcy := natC hy
  refine (spec_l2Digit _ _ hcy.1 hcy.2).mono ?_
  rintro e w' ⟨rfl, rfl⟩
  have hg1 : (dgs (y : Int)).size = 1 := rfl
  generalize dgs (y : Int) = G at *
  have hG : G.size ≤ 1 := by omega
  go_wp2_with fail
  refine (IH.out b n _ sl _ H2 _ rfl (by omega)).mono ?_
  rintro e w4 ⟨⟨s1, hs1a, hs1b, rfl⟩, q1, hq1, H4, hbH4⟩
  replace hbA := hbA.trans hbH4
  clear hbH4
  have hs1c : s1.size ≤ 200 := by omega
  go_wp2_with fail
  go_ret
  exact ⟨⟨_, by simp only [ByteArray.size_append, sz1]; omega, by simp only [ByteArray.size_append, sz1]; omega, rfl⟩, q1, by omega, H4, hbA⟩
theorem l5Draw_rep (d' : Nat) (hd4 : d' + 1 ≤ 4) (IH : DrawsAt d' true) (b n p : Nat) (sl : Value) (w : World) (h : Rd w b sl n p) (hp : p + dAsk (d' + 1) ≤ 600000) (v : Nat) (hv : v < 16) (h1 : ¬ v < 3) (h2 : ¬ v < 7) (h3 : ¬ v < 9) (h4 : ¬ v < 11) (h5 : ¬ v < 13) (h6 : ¬ v < 14) (hpk : PickIs b n p sl w v) :
    Calls Tryz.prog 32 #[.pointer (some ⟨b, 0, none⟩), .int .i64 ((d' + 1 : Nat) : Int), .bool true] w (DrEnd (dLen (d' + 1)) (dAsk (d' + 1)) b n p sl w) := by
  have hLl := dLen_le (d := d') (by omega)
  have hdi : ¬ ((d' + 1 : Nat) : Int) ≤ 0 := by omega
  rw [show dLen (d' + 1) = 2 + 2 * dLen d' from rfl, show dAsk (d' + 1) = 25 + 2 * dAsk d' from rfl]
  rw [show dAsk (d' + 1) = 25 + 2 * dAsk d' from rfl] at hp
  replace IH := Lib.hid IH
  go_enter Tryz.func32, Tryz.ntmps32
  go_wp2_with fail
  refine hpk.mono ?_
  rintro e w1 ⟨rfl, hP⟩
  have H1 := hP.rd
  have hb1 := hP.below
  clear h hP hpk
  go_wp2_with fail
  refine (pick_at b n (p + 1) 16 sl _ H1 (by omega) (by decide) (by decide)).mono ?_
  rintro e w2 ⟨⟨y, rfl, hy⟩, hP⟩
  have H2 := hP.rd
  have hbA := hb1.trans hP.below
  clear H1 hb1 hP
  go_wp2_with fail
  have hcy := natC hy
  refine (spec_l2Digit _ _ hcy.1 hcy.2).mono ?_
  rintro e w' ⟨rfl, rfl⟩
  have hg1 : (dgs (y : Int)).size = 1 := rfl
  generalize dgs (y : Int) = G at *
  have hG : G.size ≤ 1 := by omega
  go_wp2_with fail
  refine (of2_at b n (p + 1 + 1) sl w2 ⟨#[42]⟩ ⟨#[43]⟩ H2 (by omega) rfl rfl).mono ?_
  rintro e w3 ⟨⟨s0, hs0, rfl⟩, H3, hb3⟩
  replace hbA := hbA.trans hb3
  clear hb3
  have hs0c : s0.size ≤ 1 := by omega
  go_wp2_with fail
  refine (IH.out b n _ sl _ H3 _ rfl (by omega)).mono ?_
  rintro e w4 ⟨⟨s1, hs1a, hs1b, rfl⟩, q1, hq1, H4, hbH4⟩
  replace hbA := hbA.trans hbH4
  clear hbH4
  have hs1c : s1.size ≤ 200 := by omega
  go_wp2_with fail
  go_ret
  exact ⟨⟨_, by simp only [ByteArray.size_append, sz1]; omega, by simp only [ByteArray.size_append, sz1]; omega, rfl⟩, q1, by omega, H4, hbA⟩

end Go.Proofs.YtaeibhpkcikaaaaGreatDoor
