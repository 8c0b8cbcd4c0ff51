/- The statement on who wins by the outcomes: its walk. -/
import Derived.Test.YtaeibhpkcikaaaaDraw8
import Derived.Test.YtaeibhpkcikaaaaImR
import Derived.Test.YtaeibhpkcikaaaaImT
import Derived.Test.YtaeibhpkcikaaaaGL
namespace Go.Proofs.Ytaeibhpkcikaaaa
set_option linter.unusedVariables false
set_option linter.unusedSimpArgs false
open Go.RowKit Go.Shelf
set_option maxRecDepth 100000
set_option maxHeartbeats 400000000

/-- what outcomes tell of who wins for a condition -/
structure WinAt (x y win im : Bool) (an : Int) (a d : Bool) : Prop where
  h1 : win = true → an ≠ 0 ∨ d = true
  h2 : win = false → im = true → a = true
  h3 : x = true → win = true → im = true ∧ a = false
  h4 : y = true → win = false → an = 0 ∧ d = false
theorem and_zero {p q : Int} (hp : C p) (hq : C q) : bits .and .i64 p q = 0 ↔ ¬ ∃ i, i < 4 ∧ has p i = true ∧ has q i = true := by
  constructor
  · rintro h ⟨i, hi, h1, h2⟩
    have h3 := congrArg (fun p => has p i) h
    simp only [has_zero] at h3
    rw [has_and hp.fit16 hq.fit16, h1, h2] at h3
    cases h3
  · intro h
    refine C.ext (hp.and hq) C.zero fun i hi => ?_
    rw [has_and hp.fit16 hq.fit16, has_zero]
    cases h1 : has p i
    · rfl
    · cases h2 : has q i
      · rfl
      · exact absurd ⟨i, hi, h1, h2⟩ h
theorem win_at {t : Ct} (ht : t.WF) (hl : t.len ≤ 200) (hf : t.flat = true) (hn : t.num ≤ 10) {s : Nat} (hs : s < 4) {k : Nat} (hk : k < 16) :
    WinAt (t.knows noA) (t.knows noD) (has (t.sem k) s) (bits .andNot .i64 (t.all s).ends (k : Int) == 0) (bits .and .i64 (t.all s).ends (k : Int)) (t.all s).angel (t.all s).demon := by
  have hp := c_nat hk
  have hc : C (t.all s).ends := all_c 11 _ _ hs
  have H := win_all 11 s [t] (k : Int) hs (fitOne ht hl) (fun x hx => by simp at hx; subst hx; exact hf) (by simp [tot]; omega) (by simp [tot]; omega) hp
  have e : semL [t] (k : Int) = t.sem k := by show t.sem ((k : Int)).toNat = _; rw [Int.toNat_natCast]
  rw [e] at H
  have e2 : allA 11 s [t] = t.all s := rfl
  rw [e2] at H
  obtain ⟨H1, H2, H3, H4⟩ := H
  have hz := and_zero hc hp
  have hsub : ((bits .andNot .i64 (t.all s).ends (k : Int) == 0) = true) ↔ Sub (t.all s).ends (k : Int) := by rw [beq_iff_eq]; exact sub_dif hc hp
  refine ⟨fun h => ?_, fun h h5 => ?_, fun hx h => ?_, fun hy h => ?_⟩
  · rcases H1 h with h3 | h3
    · left; intro h0; exact hz.1 h0 h3
    · exact .inr h3
  · cases ha : (t.all s).angel
    · exact absurd ⟨hsub.1 h5, ha⟩ (H2 h)
    · rfl
  · have := H3 (fun x hx2 => by simp at hx2; subst hx2; exact hx) h
    exact ⟨hsub.2 this.1, this.2⟩
  · have hno : ¬ goodOne (t.all s) (k : Int) := fun hg => by
      rw [H4 (fun x hx2 => by simp at hx2; subst hx2; exact hy) hg] at h; cases h
    constructor
    · exact hz.2 fun h3 => hno (.inl h3)
    · cases hd : (t.all s).demon
      · rfl
      · exact absurd (.inr hd) hno
theorem in_OutcomesWin (a : Option Addr) (la ca : Nat) (za : List Int) (w : World) (h0 : IsRow .u8 w a la ca za) (hs : la ≤ 1048576) :
    Calls Try.prog 8 #[.slice a la ca] w fun e w' => e = .returned (.bool true) ∧ Below w.heap.size w w' := by
  go_enter Try.func8, Try.ntmps8
  go_wp2_with fail
  refine (DrawOutcomesOf_at a la ca za w h0).mono ?_
  rintro e w1 ⟨⟨c, s, hc, rfl⟩, hb⟩
  have hc' : c.size ≤ 4611686018427387904 := by omega
  cases hk : isCt c && stOk s
  · have HI := Lib.hid (impl_OutcomesOf_no c s _ (fun w => impl_allPlays_A c s hc' hk w))
    have HJ := Lib.hid (fun w => spec_OutcomesOf_no c s w hc' hk)
    clear hk
    go_wp2_with fail
    refine (HI.out _).mono ?_
    rintro e w2 ⟨rfl, hb2⟩
    go_wp2_with fail
    refine (HJ.out _).mono ?_
    rintro e w' ⟨rfl, rfl⟩
    go_wp2_with fail
    go_ret
    exact ⟨rfl, below_step hb hb2⟩
  · have hh : isCt c = true ∧ stOk s = true := by simpa using hk
    obtain ⟨t, ht, rfl, hlt⟩ := ct_ofP hh.1
    obtain ⟨n, hn, rfl⟩ := stOk_nat hh.2
    clear hk hh hc hc'
    cases hq : t.flat && decide (t.num ≤ 10)
    · have HI := Lib.hid (impl_OutcomesOf_no t.text (n : Int) _ (fun w => impl_allPlays_B t ht hlt (n : Int) hq w))
      have HJ := Lib.hid (fun w => spec_OutcomesOf_big t ht hlt n hn w hq)
      clear hq
      go_wp2_with fail
      refine (HI.out _).mono ?_
      rintro e w2 ⟨rfl, hb2⟩
      go_wp2_with fail
      refine (HJ.out _).mono ?_
      rintro e w3 ⟨rfl, hb3⟩
      go_wp2_with fail
      go_ret
      exact ⟨rfl, below_step (below_step hb hb2) hb3⟩
    · have hh : t.flat = true ∧ t.num ≤ 10 := by simpa using hq
      have HI := Lib.hid (impl_OutcomesOf_yes t.text (n : Int) _ (fun w => impl_allPlays_yes t ht hlt n hn hh.1 hh.2 w))
      have HJ := Lib.hid (fun w => spec_OutcomesOf_yes t ht hlt n hn w hh.1 hh.2)
      have HC := Lib.hid (impl_ChoosesIn t ht hlt)
      have hcE : C (t.all n).ends := all_c 11 _ _ hn
      have HW : Hid (∀ k : Nat, k < 16 → ∃ win im an, WinAt (t.knows noA) (t.knows noD) win im an (t.all n).angel (t.all n).demon ∧
          (∀ w, Calls Try.prog 37 #[.string t.text, .int .i64 n, .int .i64 k] w fun e w' => e = .returned (.bool win) ∧ Below w.heap.size w w') ∧
          (∀ w, Calls Try.prog 27 #[.int .i64 (t.all n).ends, .int .i64 k] w fun e w' => e = .returned (.bool im) ∧ w = w') ∧
          (∀ w, Calls Try.prog 38 #[.int .i64 (t.all n).ends, .int .i64 k] w fun e w' => e = .returned (.int .i64 an) ∧ w = w')) := fun k hk => by
        refine ⟨_, _, _, win_at ht hlt hh.1 hh.2 hn hk, fun w => ?_, fun w => i_Implies hcE (c_nat hk) w, fun w => impl_AndCondition hcE (c_nat hk) w⟩
        have := impl_AngelWins t ht hlt hn (c_nat hk) w
        rwa [Int.toNat_natCast] at this
      clear hq hh
      have hE0 : ¬ (t.all n).ends < 0 := by have := hcE.1; omega
      have hE1 : 0 ≤ (t.all n).ends := hcE.1
      generalize t.all n = S at *
      obtain ⟨pl, E, sa, sd⟩ := S
      simp only at *
      clear hcE
      generalize t.knows noA = kx at *
      generalize t.knows noD = ky at *
      generalize t.text = T at *
      cases kx <;> cases ky <;> cases sa <;> cases sd
      all_goals
        go_wp2_with fail
        refine (HI.out _).mono ?_
        rintro e w2 ⟨rfl, hb2⟩
        go_wp2_with fail
        refine (HJ.out _).mono ?_
        rintro e w3 ⟨rfl, hb3⟩
        go_wp2_with fail
        refine (HC.out _).mono ?_
        rintro e w4 ⟨rfl, hb4⟩
        replace hb4 := below_step (below_step (below_step hb hb2) hb3) hb4
        clear hb hb2 hb3 HI HJ HC
        go_wp2_with fail
        go_loopw [13] (fun i wr => ∃ k : Nat, k ≤ 16 ∧ i = .int .i64 k ∧ Below w.heap.size w wr) (fun i _ => 16 - (intOf i).toNat)
        case atStart => exact ⟨0, by omega, rfl, hb4⟩
        case round =>
          obtain ⟨k, hk, rfl, hb5⟩ := hrel
          clear hb4
          by_cases hlt16 : k < 16
          · obtain ⟨win, im, an, HWA, HA, HIm, HAn⟩ := HW.out k hlt16
            replace HA := Lib.hid HA
            replace HIm := Lib.hid HIm
            replace HAn := Lib.hid HAn
            obtain ⟨g1, g2, g3, g4⟩ := HWA
            have ek : decide ((k : Int) < 16) = true := by rw [decide_eq_true_eq]; omega
            by_cases ha : an = 0
            · subst ha
              cases win <;> cases im
              all_goals
                first
                | (exfalso; revert g1 g2 g3 g4; simp; done)
                | (clear g1 g2 g3 g4
                   go_wp2_with fail
                   refine (HA.out _).mono ?_
                   rintro e w6 ⟨rfl, hb6⟩
                   go_wp2_with fail
                   repeat (first
                     | (refine (HIm.out _).mono ?_; rintro e w' ⟨rfl, rfl⟩; go_wp2_with fail)
                     | (refine (HAn.out _).mono ?_; rintro e w' ⟨rfl, rfl⟩; go_wp2_with fail))
                   go_roundw
                   case rel => exact ⟨k + 1, by omega, by go_num, below_step hb5 hb6⟩
                   case measure => simp [intOf]; omega)
            · have a1 : (an == 0) = false := by rw [beq_eq_false_iff_ne]; exact ha
              have a2 : (an != 0) = true := by rw [bne, a1]; rfl
              cases win <;> cases im
              all_goals
                first
                | (exfalso; revert g1 g2 g3 g4; simp [ha]; done)
                | (clear g1 g2 g3 g4
                   go_wp2_with fail
                   refine (HA.out _).mono ?_
                   rintro e w6 ⟨rfl, hb6⟩
                   go_wp2_with fail
                   repeat (first
                     | (refine (HIm.out _).mono ?_; rintro e w' ⟨rfl, rfl⟩; go_wp2_with fail)
                     | (refine (HAn.out _).mono ?_; rintro e w' ⟨rfl, rfl⟩; go_wp2_with fail))
                   go_roundw
                   case rel => exact ⟨k + 1, by omega, by go_num, below_step hb5 hb6⟩
                   case measure => simp [intOf]; omega)
          · obtain rfl : k = 16 := by omega
            go_wp2_with fail
            go_ret
            exact ⟨rfl, hb5⟩
theorem walk_OutcomesWin (a : Option Addr) (la ca : Nat) (za : List Int) (w : World) (h0 : IsRow .u8 w a la ca za) :
    Calls Try.prog 8 #[.slice a la ca] w fun e w' => e = .returned (.bool true) ∧ Below w.heap.size w w' := by
  by_cases hs : la ≤ 1048576
  · exact in_OutcomesWin a la ca za w h0 hs
  · go_enter Try.func8, Try.ntmps8
    go_wp2_with fail
    go_ret
    exact ⟨rfl, Below.refl _ _⟩
end Go.Proofs.Ytaeibhpkcikaaaa
