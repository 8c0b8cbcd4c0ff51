/- The statement on outcomes: its walk. -/
import Derived.Test.YtaeibhpkcikaaaaLawS
import Derived.Test.YtaeibhpkcikaaaaDraw8
import Derived.Test.YtaeibhpkcikaaaaImT
import Derived.Test.YtaeibhpkcikaaaaGL
namespace Go.Proofs.Ytaeibhpkcikaaaa
set_option linter.unusedVariables false
set_option linter.unusedSimpArgs false
open Go.RowKit Go.Shelf
set_option maxRecDepth 100000
set_option maxHeartbeats 40000000

theorem arr_list (P : List UInt8) : (⟨P.toArray⟩ : ByteArray).data.toList = P := rfl
theorem arr_append (P : List UInt8) (b : UInt8) : (⟨P.toArray⟩ : ByteArray) ++ ⟨#[b]⟩ = ⟨(P ++ [b]).toArray⟩ := by
  apply ByteArray.ext; apply Array.ext'; simp
theorem fn_all {t : Ct} (hn : t.num ≤ 10) {s : Nat} (hs : s < 4) (ht : t.WF) (hl : t.len ≤ 200) (hf : t.flat = true) : allA 201 s [t] = t.all s :=
  all_fuel 201 11 s [t] hs (fitOne ht hl) (fun x hx => by simp at hx; subst hx; exact hf) (by simp [tot]; omega) (by simp [tot]; omega) (by simp [tot]; omega)
theorem in_Outcomes (a : Option Addr) (la ca : Nat) (za : List Int) (b : Option Addr) (lb cb : Nat) (zb : List Int) (w : World) (h0 : IsRow .u8 w a la ca za) (h1 : IsRow .u8 w b lb cb zb) (hs : la ≤ 1048576) (hq : lb ≤ 1048576) :
    Calls Try.prog 7 #[.slice a la ca, .slice b lb cb] w fun e w' => e = .returned (.bool true) ∧ Below w.heap.size w w' := by
  go_enter Try.func7, Try.ntmps7
  go_wp2_with fail
  refine (DrawOutcomesOf_at a la ca za w h0).mono ?_
  rintro e w1 ⟨⟨c, s, hc, rfl⟩, hb⟩
  have hc' : c.size ≤ 4611686018427387904 := by omega
  cases hk : isCt c && stOk s
  · have HI := Lib.hid (impl_OutcomesOf_no c s _ (fun w => impl_allPlays_A c s hc' hk w))
    have HJ := Lib.hid (fun w => spec_OutcomesOf_no c s w hc' hk)
    have HN := Lib.hid (impl_CountPlays_no c s _ (fun w => impl_allPlays_A c s hc' hk w))
    have HM := Lib.hid (fun w => spec_CountPlays_no c s w hc' hk)
    clear hk
    go_wp2_with fail
    refine (HI.out _).mono ?_
    rintro e w2 ⟨rfl, hb2⟩
    go_wp2_with fail
    refine (HJ.out _).mono ?_
    rintro e w' ⟨rfl, rfl⟩
    go_wp2_with fail
    refine (HN.out _).mono ?_
    rintro e w3 ⟨rfl, hb3⟩
    go_wp2_with fail
    refine (HM.out _).mono ?_
    rintro e w' ⟨rfl, rfl⟩
    go_wp2_with fail
    refine (HM.out _).mono ?_
    rintro e w' ⟨rfl, rfl⟩
    go_wp2_with fail
    go_ret
    exact ⟨rfl, below_step (below_step hb hb2) hb3⟩
  · have hh : isCt c = true ∧ stOk s = true := by simpa using hk
    obtain ⟨t, ht, rfl, hlt⟩ := ct_ofP hh.1
    obtain ⟨n, hn, rfl⟩ := stOk_nat hh.2
    clear hk hh hc hc'
    cases hq : t.flat && decide (t.num ≤ 10)
    · have HI := Lib.hid (impl_OutcomesOf_no t.text (n : Int) _ (fun w => impl_allPlays_B t ht hlt (n : Int) hq w))
      have HJ := Lib.hid (fun w => spec_OutcomesOf_big t ht hlt n hn w hq)
      have HN := Lib.hid (impl_CountPlays_no t.text (n : Int) _ (fun w => impl_allPlays_B t ht hlt (n : Int) hq w))
      have HM := Lib.hid (fun w => spec_CountPlays_big t ht hlt n hn w hq)
      clear hq
      go_wp2_with fail
      refine (HI.out _).mono ?_
      rintro e w2 ⟨rfl, hb2⟩
      go_wp2_with fail
      refine (HJ.out _).mono ?_
      rintro e w3 ⟨rfl, hb3⟩
      go_wp2_with fail
      refine (HN.out _).mono ?_
      rintro e w4 ⟨rfl, hb4⟩
      go_wp2_with fail
      refine (HM.out _).mono ?_
      rintro e w5 ⟨rfl, hb5⟩
      go_wp2_with fail
      refine (HM.out _).mono ?_
      rintro e w6 ⟨rfl, hb6⟩
      go_wp2_with fail
      go_ret
      exact ⟨rfl, below_step (below_step (below_step (below_step (below_step hb hb2) hb3) hb4) hb5) hb6⟩
    · have hh : t.flat = true ∧ t.num ≤ 10 := by simpa using hq
      have HI := Lib.hid (impl_OutcomesOf_yes t.text (n : Int) _ (fun w => impl_allPlays_yes t ht hlt n hn hh.1 hh.2 w))
      have HJ := Lib.hid (fun w => spec_OutcomesOf_yes t ht hlt n hn w hh.1 hh.2)
      have HN := Lib.hid (impl_CountPlays_yes t.text (n : Int) _ (fun w => impl_allPlays_yes t ht hlt n hn hh.1 hh.2 w))
      have HM := Lib.hid (fun w => spec_CountPlays_yes t ht hlt n hn w hh.1 hh.2)
      have HC := Lib.hid (impl_ChoosesIn t ht hlt)
      have hcE : C (t.all n).ends := all_c 11 _ _ hn
      have HCS := Lib.hid (impl_CountStates (t.all n).ends hcE)
      have HHS : Hid (∀ j, j < 4 → ∀ w, Calls Try.prog 35 #[.int .i64 (t.all n).ends, .int .i64 (j : Nat)] w fun e w' => e = .returned (.bool (has (t.all n).ends j)) ∧ w = w') := fun j hj w => impl_HasState hcE hj w
      have hE0 : ¬ (t.all n).ends < 0 := by have := hcE.1; omega
      have hE1 : 0 ≤ (t.all n).ends := hcE.1
      have hfa : Flat [t] := fun x hx => by simp at hx; subst hx; exact hh.1
      have h1p : 1 ≤ (t.all n).plays := all_one 11 n [t] hn (fitOne ht hlt) hfa (by simp [tot]; omega) (by simp [tot]; omega)
      have hones : ones (t.all n).ends 4 ≤ ((t.all n).plays : Nat) := all_ones 11 n [t] hn
      have hbd : (t.all n).plays ≤ 1048576 := by
        have h1 := all_bound 11 n [t] (fitOne ht hlt) hfa (by simp [tot]; omega)
        have h2 : 4 ^ tot [t] ≤ 4 ^ 10 := Nat.pow_le_pow_right (by decide) (by simp [tot]; omega)
        exact Nat.le_trans h1 h2
      have HST := Lib.hid (fn_all hh.2 hn ht hlt hh.1)
      have hsing : t.knows noA = true → t.knows noD = true → (t.all n).plays = 1 := fun h1 h2 => all_single ht hlt h1 h2
      have HPath := PathAt.start ht hlt hh.1 hn
      have HPl : Hid (∀ (P : List UInt8), P.length ≤ 100 → ∀ w, Calls Try.prog 10 #[.string t.text, .int .i64 n, .string ⟨P.toArray⟩] w fun e w' => e = .returned (.tuple #[.int .i64 ((t.play n P).state : Nat), .int .i64 ((t.play n P).used : Nat), .string (toldS (t.play n P).how)]) ∧ Below w.heap.size w w') := fun P hP w => impl_PlayContract_yes t ht hlt n hn ⟨P.toArray⟩ (by show P.toArray.size ≤ _; rw [List.size_toArray]; omega) w
      have HCh : Hid (∀ (P : List UInt8), P.length ≤ 100 → ∀ w, Calls Try.prog 13 #[.string t.text, .int .i64 n, .string ⟨P.toArray⟩] w fun e w' => e = .returned (.tuple #[.string (askW (t.play n P)), .string (askO (t.play n P))]) ∧ Below w.heap.size w w') := fun P hP w => impl_ChoicesAt_yes t ht hlt n hn ⟨P.toArray⟩ (by show P.toArray.size ≤ _; rw [List.size_toArray]; omega) w
      have hnum := hh.2
      clear hq hh hcE hfa
      have HSTEP : Hid (∀ P n' s' ts, PathAt t n P n' s' ts → s' < 4 ∧ ((∃ m us e, e ≠ .pick ∧ e ≠ .long ∧ t.play n P = ⟨m, s', us, P.length, .fin e⟩ ∧ LeSm (leafS e s') (t.all n)) ∨
          (∃ m t1 us, t.play n P = ⟨m, s', t1 :: us, P.length, .asks⟩ ∧ t1.opts s' ≠ [] ∧ P.length + 1 ≤ 10 ∧ ∀ k ∈ t1.opts s', ∃ n2 s2 ts2, PathAt t n (P ++ [decB k]) n2 s2 ts2))) := fun P n' s' ts h => by
        refine ⟨h.hs, ?_⟩
        rcases h.step with ⟨m, us, e, h1, h2, h3, h4⟩ | ⟨m, t1, us, h1, h2, h3, h4, h5, h6⟩
        · exact .inl ⟨m, us, e, h1, h2, h3, by rw [← HST.out]; exact h4⟩
        · exact .inr ⟨m, t1, us, h1, h2, by omega, h6⟩
      clear HST hnum
      generalize t.all n = S at *
      obtain ⟨pl, E, sa, sd⟩ := S
      simp only at *
      generalize t.text = T at *
      go_wp2_with fail
      refine (HI.out _).mono ?_
      rintro e w2 ⟨rfl, hb2⟩
      go_wp2_with fail
      refine (HJ.out _).mono ?_
      rintro e w3 ⟨rfl, hb3⟩
      go_wp2_with fail
      refine (HN.out _).mono ?_
      rintro e w4 ⟨rfl, hb4⟩
      go_wp2_with fail
      refine (HM.out _).mono ?_
      rintro e w5 ⟨rfl, hb5⟩
      replace hb5 := below_step (below_step (below_step (below_step hb hb2) hb3) hb4) hb5
      clear hb hb2 hb3 hb4 HI HJ HN HM
      go_wp2_with fail
      go_loopw [14, 15] (fun o i wr => ∃ (P : List UInt8) (n' s' : Nat) (ts : List Ct), o = .string ⟨P.toArray⟩ ∧ i = .int .i64 (P.length : Nat) ∧ P.length ≤ 10 ∧ PathAt t n P n' s' ts ∧ Below w.heap.size w wr) (fun _ i _ => 40 - (intOf i).toNat)
      case atStart => exact ⟨[], 200, n, [t], rfl, rfl, by simp, HPath, hb5⟩
      case round =>
        obtain ⟨P, n', s', ts, rfl, rfl, hPl, hpath, hb6⟩ := hrel
        clear hb5 HPath
        have ek : decide ((P.length : Int) < 40) = true := by rw [decide_eq_true_eq]; omega
        have HC1 := Lib.hid (HCh.out P (by omega))
        have HP1 := Lib.hid (HPl.out P (by omega))
        obtain ⟨hs4, hst⟩ := HSTEP.out P n' s' ts hpath
        rcases hst with ⟨m, us, e, h1, h2, h3, h4⟩ | ⟨m, t1, us, h1, h2, h3, h4⟩
        · rw [h3] at HC1 HP1
          clear hpath HSTEP HPl HCh h3
          have hon : ones E 4 < (pl : Int) + 1 := by omega
          have hle : ¬ (pl : Int) + 1 ≤ ones E 4 := by omega
          have hp1 : (1 : Int) ≤ pl := by omega
          generalize ones E 4 = on at *
          cases e with
          | pick => exact absurd rfl h1
          | long => exact absurd rfl h2
          | done =>
            have he : has E s' = true := h4.ends s' (by show has (sh s') s' = true; rw [has_sh (by omega)]; simp)
            have HWH : Hid (askW ⟨m, s', us, P.length, (.fin .done)⟩ = ⟨#[]⟩) := rfl
            have HOP : Hid (askO ⟨m, s', us, P.length, (.fin .done)⟩ = ⟨#[]⟩) := rfl
            clear h4
            go_wp2_with fail
            refine (HC1.out _).mono ?_
            rintro e w7 ⟨rfl, hb7⟩
            rw [HWH.out, HOP.out]
            go_wp2_with fail
            refine (HP1.out _).mono ?_
            rintro e w8 ⟨rfl, hb8⟩
            rw [show toldS (.fin .done) = ⟨#[100, 111, 110, 101]⟩ from rfl]
            replace hb8 := below_step (below_step hb6 hb7) hb8
            clear hb7 hb6
            go_wp2_with fail
            cases hka : t.knows noA <;> cases hkd : t.knows noD
            all_goals
              have HCC := Lib.hid HC.out
              rw [hka, hkd] at HCC
              first | (have hs1 : pl = 1 := (by exact hsing hka hkd); subst hs1; have hon2 : on < 2 := by omega) | skip
              clear hsing
              go_wp2_with fail
              refine (HCC.out _).mono ?_
              rintro e w9 ⟨rfl, hb9⟩
              go_wp2_with fail
              refine (HHS.out s' hs4 _).mono ?_
              rintro e w' ⟨rfl, rfl⟩
              rw [he]
              go_wp2_with fail
              refine (HCS.out _).mono ?_
              rintro e w' ⟨rfl, rfl⟩
              go_wp2_with fail
              go_ret
              exact ⟨rfl, below_step hb8 hb9⟩
          | broke a =>
            cases a
            · skip
              obtain rfl : sd = true := h4.demon rfl
              have HWH : Hid (askW ⟨m, s', us, P.length, (.fin (.broke false))⟩ = ⟨#[]⟩) := rfl
              have HOP : Hid (askO ⟨m, s', us, P.length, (.fin (.broke false))⟩ = ⟨#[]⟩) := rfl
              clear h4
              go_wp2_with fail
              refine (HC1.out _).mono ?_
              rintro e w7 ⟨rfl, hb7⟩
              rw [HWH.out, HOP.out]
              go_wp2_with fail
              refine (HP1.out _).mono ?_
              rintro e w8 ⟨rfl, hb8⟩
              rw [show toldS (.fin (.broke false)) = ⟨#[100, 101, 109, 111, 110]⟩ from rfl]
              replace hb8 := below_step (below_step hb6 hb7) hb8
              clear hb7 hb6
              go_wp2_with fail
              cases hka : t.knows noA <;> cases hkd : t.knows noD
              all_goals
                have HCC := Lib.hid HC.out
                rw [hka, hkd] at HCC
                first | (have hs1 : pl = 1 := (by exact hsing hka hkd); subst hs1; have hon2 : on < 2 := by omega) | skip
                clear hsing
                go_wp2_with fail
                refine (HCC.out _).mono ?_
                rintro e w9 ⟨rfl, hb9⟩
                go_wp2_with fail
                refine (HCS.out _).mono ?_
                rintro e w' ⟨rfl, rfl⟩
                go_wp2_with fail
                go_ret
                exact ⟨rfl, below_step hb8 hb9⟩
            · skip
              obtain rfl : sa = true := h4.angel rfl
              have HWH : Hid (askW ⟨m, s', us, P.length, (.fin (.broke true))⟩ = ⟨#[]⟩) := rfl
              have HOP : Hid (askO ⟨m, s', us, P.length, (.fin (.broke true))⟩ = ⟨#[]⟩) := rfl
              clear h4
              go_wp2_with fail
              refine (HC1.out _).mono ?_
              rintro e w7 ⟨rfl, hb7⟩
              rw [HWH.out, HOP.out]
              go_wp2_with fail
              refine (HP1.out _).mono ?_
              rintro e w8 ⟨rfl, hb8⟩
              rw [show toldS (.fin (.broke true)) = ⟨#[97, 110, 103, 101, 108]⟩ from rfl]
              replace hb8 := below_step (below_step hb6 hb7) hb8
              clear hb7 hb6
              go_wp2_with fail
              cases hka : t.knows noA <;> cases hkd : t.knows noD
              all_goals
                have HCC := Lib.hid HC.out
                rw [hka, hkd] at HCC
                first | (have hs1 : pl = 1 := (by exact hsing hka hkd); subst hs1; have hon2 : on < 2 := by omega) | skip
                clear hsing
                go_wp2_with fail
                refine (HCC.out _).mono ?_
                rintro e w9 ⟨rfl, hb9⟩
                go_wp2_with fail
                refine (HCS.out _).mono ?_
                rintro e w' ⟨rfl, rfl⟩
                go_wp2_with fail
                go_ret
                exact ⟨rfl, below_step hb8 hb9⟩
        · obtain ⟨l, hl⟩ : ∃ l, t1.opts s' = l := ⟨_, rfl⟩
          have hol := opts_le t1 s'
          rw [hl] at h2 h4 hol
          have HWH : Hid (askO ⟨m, s', t1 :: us, P.length, .asks⟩ = optsB l) := by show optsB (t1.opts s') = _; rw [hl]
          rw [h1] at HC1
          clear hpath HSTEP HPl HCh HP1 h1 hl
          have hlp : 0 < l.length := List.length_pos_iff.2 h2
          obtain ⟨j, hj, hje⟩ : ∃ j : Nat, j < l.length ∧ ((P.length : Int) * 7 + (lb : Int)) % (l.length : Nat) = j := ⟨(P.length * 7 + lb) % l.length, Nat.mod_lt _ hlp, by push_cast; rfl⟩
          obtain ⟨x, hx⟩ : ∃ x, l[j]? = some x := ⟨l[j], by simp [hj]⟩
          have HX := Lib.hid (optsB_cut l j x hx)
          obtain ⟨n2, s2, ts2, hp2⟩ := h4 x (List.mem_of_getElem? hx)
          have hsz := optsB_size l
          have HE2 : (optsB l).toList.isEmpty = false := by
            rw [ByteArray.toList_eq]
            cases hd : (optsB l).data.toList with
            | nil => exact absurd (by rw [← hsz, Lib.size_eq, hd]; rfl) (Nat.ne_of_gt hlp)
            | cons a l => rfl
          clear hx h4 h2
          generalize askW ⟨m, s', t1 :: us, P.length, .asks⟩ = W at *
          go_wp2_with fail
          refine (HC1.out _).mono ?_
          rintro e w7 ⟨rfl, hb7⟩
          rw [HWH.out]
          go_wp2_with fail
          refine ⟨⟨P ++ [decB x], n2, s2, ts2, by rw [HX.out, arr_append], by rw [List.length_append]; push_cast; rfl, by rw [List.length_append]; exact h3, hp2, below_step hb6 hb7⟩, by simp [intOf]; omega⟩
theorem walk_Outcomes (a : Option Addr) (la ca : Nat) (za : List Int) (b : Option Addr) (lb cb : Nat) (zb : List Int) (w : World) (h0 : IsRow .u8 w a la ca za) (h1 : IsRow .u8 w b lb cb zb) :
    Calls Try.prog 7 #[.slice a la ca, .slice b lb cb] w fun e w' => e = .returned (.bool true) ∧ Below w.heap.size w w' := by
  by_cases hs : la ≤ 1048576
  · by_cases hq : lb ≤ 1048576
    · exact in_Outcomes a la ca za b lb cb zb w h0 h1 hs hq
    · go_enter Try.func7, Try.ntmps7
      go_wp2_with fail
      go_ret
      exact ⟨rfl, Below.refl _ _⟩
  · go_enter Try.func7, Try.ntmps7
    go_wp2_with fail
    go_ret
    exact ⟨rfl, Below.refl _ _⟩
end Go.Proofs.Ytaeibhpkcikaaaa
