/- The drawing of the arguments of plays with the best choices. -/
import Derived.Test.YtaeibhpkcikaaaaGreatDoorDraw8
namespace Go.Proofs.YtaeibhpkcikaaaaGreatDoor
set_option linter.unusedVariables false
set_option linter.unusedSimpArgs false
open Go.RowKit Go.Shelf
set_option maxRecDepth 100000
set_option maxHeartbeats 4000000

def whoC (j : Nat) : ByteArray := if j = 0 then ⟨#[97, 110, 103, 101, 108]⟩ else if j = 1 then ⟨#[100, 101, 109, 111, 110]⟩ else if j = 2 then ⟨#[97, 110, 103, 101, 108]⟩ else if j = 3 then ⟨#[100, 101, 109, 111, 110]⟩ else if j = 4 then ⟨#[97, 110, 103, 101, 108]⟩ else if j = 5 then ⟨#[100, 101, 109, 111, 110]⟩ else ⟨#[]⟩
theorem whoC_le (j : Nat) (hj : j < 7) : (whoC j).size ≤ 5 := by
  obtain rfl | rfl | rfl | rfl | rfl | rfl | rfl : j = 0 ∨ j = 1 ∨ j = 2 ∨ j = 3 ∨ j = 4 ∨ j = 5 ∨ j = 6 := by omega
  all_goals decide
theorem whoOf_at (b n p : Nat) (sl : Value) (w : World) (h : Rd w b sl n p) (hp : p ≤ 800000) :
    Calls Tryz.prog 36 #[.pointer (some ⟨b, 0, none⟩), .slice (some ⟨w.heap.size, 0, none⟩) 7 7] (w.alloc (.cells #[.string ⟨#[97, 110, 103, 101, 108]⟩, .string ⟨#[100, 101, 109, 111, 110]⟩, .string ⟨#[97, 110, 103, 101, 108]⟩, .string ⟨#[100, 101, 109, 111, 110]⟩, .string ⟨#[97, 110, 103, 101, 108]⟩, .string ⟨#[100, 101, 109, 111, 110]⟩, .string ⟨#[]⟩] 9)) fun e w' =>
      (∃ s : ByteArray, s.size ≤ 5 ∧ e = .returned (.string s)) ∧ Rd w' b sl n (p + 1) ∧ Below b w w' := by
  have hlt := h.lt
  refine (of_at b n p 7 w.heap.size 7 sl whoC _ (h.old _) (by omega) (by decide) (by decide) (by omega) ?_).mono ?_
  · intro j hj
    rw [cell_of_row _ _ j _ _ _ (heap_alloc_new w _)]
    obtain rfl | rfl | rfl | rfl | rfl | rfl | rfl : j = 0 ∨ j = 1 ∨ j = 2 ∨ j = 3 ∨ j = 4 ∨ j = 5 ∨ j = 6 := by omega
    all_goals rfl
  · rintro e w' ⟨⟨j, hj, rfl⟩, hP⟩
    exact ⟨⟨_, whoC_le j hj, rfl⟩, hP.rd, ((Below.refl b w).alloc (Nat.le_of_lt hlt) _).trans hP.below⟩
theorem results_tmp5 {fn : Func} {t u v x y : Tmp} (h : fn.results = #[.tmp t, .tmp u, .tmp v, .tmp x, .tmp y]) (tmps : Array Value) (P : Program) (w : World) :
    (results fn tmps).run P w = .ok (.tuple #[tmps.getD t undef, tmps.getD u undef, tmps.getD v undef, tmps.getD x undef, tmps.getD y undef]) w := by
  simp [results, h]
theorem DrawBestPlay_at (a : Option Addr) (len cap : Nat) (zs : List Int) (w : World) (h : IsRow .u8 w a len cap zs) :
    Calls Tryz.prog 7 #[.slice a len cap] w fun e w' => (∃ (c : ByteArray) (s p : Int) (who others : ByteArray), c.size ≤ 1000 ∧ who.size ≤ 5 ∧ others.size ≤ 20 ∧ e = .returned (.tuple #[.string c, .int .i64 s, .int .i64 p, .string who, .string others])) ∧ Below w.heap.size w w' := by
  have hb3 : ∀ v : Nat, v < 3 → dLen (1 + v) ≤ 200 ∧ dAsk (1 + v) ≤ 500 := by
    intro v hv
    obtain rfl | rfl | rfl : v = 0 ∨ v = 1 ∨ v = 2 := by omega
    all_goals exact ⟨by decide, by decide⟩
  go_enter Tryz.func7, Tryz.ntmps7
  go_wp2_with fail
  refine (l14Open_at a len cap zs w h).mono ?_
  rintro e w0 ⟨rfl, ⟨sl, n, H⟩, hb⟩
  go_wp2_with fail
  refine (pick_at _ n 0 3 sl _ H (by omega) (by decide) (by decide)).mono ?_
  rintro e w1 ⟨⟨v, rfl, hv⟩, hP⟩
  have H1 := hP.rd
  have hb1 := hP.below
  clear h H hP
  obtain ⟨hL, hA⟩ := hb3 v hv
  clear hb3
  go_wp2_with fail
  refine (pick_at _ n _ 8 sl _ H1 (by omega) (by decide) (by decide)).mono ?_
  rintro e w2 ⟨⟨y, rfl, hy⟩, hP⟩
  have H2 := hP.rd
  have hb2 := hb1.trans hP.below
  clear H1 hb1 hP
  go_wp2_with fail
  refine (l5Draw_at (1 + v) (by omega) _ _ n _ sl _ H2 _ (by push_cast; rfl) (by omega)).mono ?_
  rintro e w3 ⟨⟨s, hs1, hs2, rfl⟩, q, hq, H3, hb3⟩
  replace hb3 := hb2.trans hb3
  clear H2 hb2
  go_wp2_with fail
  refine (l5Bad_at _ n q sl s hs1 (by omega) _ H3 (by omega)).mono ?_
  rintro e w4 ⟨⟨c, hc, rfl⟩, q4, hq4, H4, hb4⟩
  replace hb4 := hb3.trans hb4
  clear H3 hb3
  go_wp2_with fail
  refine (l1Spot_at _ n q4 sl _ H4 (by omega)).mono ?_
  rintro e w5 ⟨⟨st, rfl⟩, q5, hq5, H5, hb5⟩
  replace hb5 := hb4.trans hb5
  clear H4 hb4
  go_wp2_with fail
  refine (l1Some_at _ n q5 sl _ H5 (by omega)).mono ?_
  rintro e w6 ⟨⟨p, _, _, rfl⟩, q6, hq6, H6, hb6⟩
  replace hb6 := hb5.trans hb6
  clear H5 hb5
  go_wp2_with fail
  refine (whoOf_at _ n q6 sl _ H6 (by omega)).mono ?_
  rintro e w7 ⟨⟨who, hwho, rfl⟩, H7, hb7⟩
  replace hb7 := hb6.trans hb7
  clear H6 hb6
  go_wp2_with fail
  refine (l6Picks_at _ n _ sl _ H7 (by omega)).mono ?_
  rintro e w8 ⟨⟨ps, hps, rfl⟩, q8, hq8, H8, hb8⟩
  replace hb8 := hb7.trans hb8
  clear H7 hb7
  go_wp2_with fail
  refine (pick_at _ n q8 20 sl _ H8 (by omega) (by decide) (by decide)).mono ?_
  rintro e w9 ⟨⟨z, rfl, hz⟩, hP⟩
  have hb9 := hb8.trans hP.below
  clear H8 hb8 hP
  rcases Nat.eq_zero_or_pos z with h0 | h0
  · subst h0
    go_wp2_with fail
    try simp only [Exit.inBlock, Exit.then]
    refine bodyPost_ret (results_tmp5 rfl _ _ _) rfl ⟨⟨c, st, p, who, _, hc, hwho, ?_, rfl⟩, hb.trans hb9⟩
    simp only [ByteArray.size_append]; show _ + 1 ≤ _; omega
  · have e0 : ((z : Int) == 0) = false := by rw [beq_eq_false_iff_ne]; omega
    go_wp2_with fail
    try simp only [Exit.inBlock, Exit.then]
    refine bodyPost_ret (results_tmp5 rfl _ _ _) rfl ⟨⟨c, st, p, who, _, hc, hwho, ?_, rfl⟩, hb.trans hb9⟩
    omega
end Go.Proofs.YtaeibhpkcikaaaaGreatDoor
