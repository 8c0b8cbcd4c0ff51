/- The statements on plays: their walks. -/
import Derived.Test.YtaeibhpkcikaaaaGP
import Derived.Test.YtaeibhpkcikaaaaGL
import Derived.Test.YtaeibhpkcikaaaaGQ
namespace Go.Proofs.Ytaeibhpkcikaaaa
set_option linter.unusedVariables false
set_option linter.unusedSimpArgs false
open Go.RowKit Go.Shelf
set_option maxRecDepth 100000
set_option maxHeartbeats 10000000

theorem impl_PlayContract_no (c picks : ByteArray) (s : Int) (hc : c.size ≤ 4611686018427387904) (hk : (isCt c && stOk s) = false) (w : World) :
    Calls Try.prog 10 #[.string c, .int .i64 s, .string picks] w fun e w' => e = .returned (.tuple #[.int .i64 0, .int .i64 0, .string ⟨#[]⟩]) ∧ Below w.heap.size w w' := by
  cases k1 : isCt c
  · exact impl_PlayContract_no1 c picks s w hc k1
  · obtain ⟨t, ht, rfl, hlt⟩ := ct_ofP k1
    exact impl_PlayContract_no2 t ht hlt picks s w (by simpa [k1] using hk)
theorem extract_take (s : ByteArray) (k : Nat) : (s.extract 0 k).data.toList = s.data.toList.take k := by
  simp [ByteArray.data_extract]
theorem in_Play (a : Option Addr) (la ca : Nat) (za : List Int) (w : World) (h0 : IsRow .u8 w a la ca za) (hs : la ≤ 1048576) :
    Calls Try.prog 3 #[.slice a la ca] w fun e w' => e = .returned (.bool true) ∧ Below w.heap.size w w' := by
  go_enter Try.func3, Try.ntmps3
  go_wp2_with fail
  refine (DrawPlayContract_at a la ca za w h0).mono ?_
  rintro e w1 ⟨⟨c, s, picks, hc, hp, rfl⟩, hb⟩
  have hc' : c.size ≤ 4611686018427387904 := by omega
  have hp' : picks.size ≤ 4611686018427387904 := by omega
  cases hk : isCt c && stOk s
  · have HI := Lib.hid (impl_PlayContract_no c picks s hc' hk)
    have HJ := Lib.hid (spec_PlayContract_no c picks s · hc' hk)
    clear hk
    go_wp2_with fail
    refine (HI.out _).mono ?_
    rintro e w2 ⟨rfl, hb2⟩
    go_wp2_with fail
    refine (HJ.out _).mono ?_
    rintro e w' ⟨rfl, rfl⟩
    go_wp2_with fail
    go_ret
    exact ⟨rfl, below_step hb hb2⟩
  · have hh : isCt c = true ∧ stOk s = true := by simpa using hk
    obtain ⟨t, ht, rfl, hlt⟩ := ct_ofP hh.1
    obtain ⟨n, hn, rfl⟩ := stOk_nat hh.2
    clear hk hh
    have HI := Lib.hid (impl_PlayContract_yes t ht hlt n hn picks hp')
    have HJ := Lib.hid (spec_PlayContract_yes t ht hlt n hn picks hp')
    have hT := play_take picks.data.toList 200 n [t] 0
    have hA := play_asks_at (cs := picks.data.toList) (n := 200) (k := 0) hn (fit_one ht hlt) (by simp)
    have hK : ∀ u, u ≤ picks.size → ∀ w, Calls Try.prog 10 #[.string t.text, .int .i64 n, .string (picks.extract 0 u)] w fun e w' => e = .returned (.tuple #[.int .i64 ((t.play n (picks.data.toList.take u)).state : Nat), .int .i64 ((t.play n (picks.data.toList.take u)).used : Nat), .string (toldS (t.play n (picks.data.toList.take u)).how)]) ∧ Below w.heap.size w w' := fun u hu w => by
      have := impl_PlayContract_yes t ht hlt n hn (picks.extract 0 u) (by rw [ByteArray.size_extract]; omega) w
      rw [extract_take] at this
      exact this
    have e0 : playA picks.data.toList 200 n [t] 0 = t.play n picks.data.toList := rfl
    rw [e0] at hT hA
    obtain ⟨hT1, hT2, hT3, hT4⟩ := hT
    have hA1 := hA.1
    have hA4 := hA.2.2.2.1
    have e1 : picks.data.toList.length = picks.size := rfl
    rw [e1, Nat.zero_add] at hT2 hT3
    have hK2 := hK _ hT2
    rw [Nat.sub_zero] at hT4
    have e2 : t.play n (picks.data.toList.take (t.play n picks.data.toList).used) = _ := hT4
    rw [e2] at hK2
    have HK := Lib.hid hK2
    clear hT4 e2 e0 e1 hK hK2 hA hT1
    generalize t.play n picks.data.toList = p at *
    obtain ⟨m, st, td, us, how⟩ := p
    simp only at *
    clear hc hc'
    have hst : (st : Int) < 4 := by omega
    have hst0 : ¬ (4 : Int) ≤ (st : Int) := by omega
    have hus : (us : Int) ≤ (picks.size : Int) := by omega
    have hus0 : ¬ (picks.size : Int) < (us : Int) := by omega
    cases how with
    | asks =>
      have h3 : us = picks.size := hT3 rfl
      have h3i : ((us : Int) == (picks.size : Int)) = true := by rw [h3]; simp
      clear hT3 h3 hA4
      go_wp2_with fail
      refine (HI.out _).mono ?_
      rintro e w2 ⟨rfl, hb2⟩
      rw [show toldS .asks = ⟨#[97, 115, 107, 115]⟩ from rfl]
      go_wp2_with fail
      refine (HJ.out _).mono ?_
      rintro e w3 ⟨rfl, hb3⟩
      rw [show toldS .asks = ⟨#[97, 115, 107, 115]⟩ from rfl]
      go_wp2_with fail
      refine (HK.out _).mono ?_
      rintro e w4 ⟨rfl, hb4⟩
      rw [show toldS (again .asks) = ⟨#[97, 115, 107, 115]⟩ from rfl]
      go_wp2_with fail
      go_ret
      exact ⟨rfl, below_step (below_step (below_step hb hb2) hb3) hb4⟩
    | bad =>
      clear hT3 hA4
      go_wp2_with fail
      refine (HI.out _).mono ?_
      rintro e w2 ⟨rfl, hb2⟩
      rw [show toldS .bad = ⟨#[98, 97, 100]⟩ from rfl]
      go_wp2_with fail
      refine (HJ.out _).mono ?_
      rintro e w3 ⟨rfl, hb3⟩
      rw [show toldS .bad = ⟨#[98, 97, 100]⟩ from rfl]
      go_wp2_with fail
      refine (HK.out _).mono ?_
      rintro e w4 ⟨rfl, hb4⟩
      rw [show toldS (again .bad) = ⟨#[97, 115, 107, 115]⟩ from rfl]
      go_wp2_with fail
      go_ret
      exact ⟨rfl, below_step (below_step (below_step hb hb2) hb3) hb4⟩
    | fin f =>
      clear hT3
      cases f with
      | pick => exact absurd rfl hA4
      | done =>
        go_wp2_with fail
        refine (HI.out _).mono ?_
        rintro e w2 ⟨rfl, hb2⟩
        rw [show toldS (.fin .done) = ⟨#[100, 111, 110, 101]⟩ from rfl]
        go_wp2_with fail
        refine (HJ.out _).mono ?_
        rintro e w3 ⟨rfl, hb3⟩
        rw [show toldS (.fin .done) = ⟨#[100, 111, 110, 101]⟩ from rfl]
        go_wp2_with fail
        refine (HK.out _).mono ?_
        rintro e w4 ⟨rfl, hb4⟩
        rw [show toldS (again (.fin .done)) = ⟨#[100, 111, 110, 101]⟩ from rfl]
        go_wp2_with fail
        go_ret
        exact ⟨rfl, below_step (below_step (below_step hb hb2) hb3) hb4⟩
      | long =>
        go_wp2_with fail
        refine (HI.out _).mono ?_
        rintro e w2 ⟨rfl, hb2⟩
        rw [show toldS (.fin .long) = ⟨#[108, 111, 110, 103]⟩ from rfl]
        go_wp2_with fail
        refine (HJ.out _).mono ?_
        rintro e w3 ⟨rfl, hb3⟩
        rw [show toldS (.fin .long) = ⟨#[108, 111, 110, 103]⟩ from rfl]
        go_wp2_with fail
        refine (HK.out _).mono ?_
        rintro e w4 ⟨rfl, hb4⟩
        rw [show toldS (again (.fin .long)) = ⟨#[108, 111, 110, 103]⟩ from rfl]
        go_wp2_with fail
        go_ret
        exact ⟨rfl, below_step (below_step (below_step hb hb2) hb3) hb4⟩
      | broke a =>
        cases a
        · skip
          go_wp2_with fail
          refine (HI.out _).mono ?_
          rintro e w2 ⟨rfl, hb2⟩
          rw [show toldS (.fin (.broke false)) = ⟨#[100, 101, 109, 111, 110]⟩ from rfl]
          go_wp2_with fail
          refine (HJ.out _).mono ?_
          rintro e w3 ⟨rfl, hb3⟩
          rw [show toldS (.fin (.broke false)) = ⟨#[100, 101, 109, 111, 110]⟩ from rfl]
          go_wp2_with fail
          refine (HK.out _).mono ?_
          rintro e w4 ⟨rfl, hb4⟩
          rw [show toldS (again (.fin (.broke false))) = ⟨#[100, 101, 109, 111, 110]⟩ from rfl]
          go_wp2_with fail
          go_ret
          exact ⟨rfl, below_step (below_step (below_step hb hb2) hb3) hb4⟩
        · skip
          go_wp2_with fail
          refine (HI.out _).mono ?_
          rintro e w2 ⟨rfl, hb2⟩
          rw [show toldS (.fin (.broke true)) = ⟨#[97, 110, 103, 101, 108]⟩ from rfl]
          go_wp2_with fail
          refine (HJ.out _).mono ?_
          rintro e w3 ⟨rfl, hb3⟩
          rw [show toldS (.fin (.broke true)) = ⟨#[97, 110, 103, 101, 108]⟩ from rfl]
          go_wp2_with fail
          refine (HK.out _).mono ?_
          rintro e w4 ⟨rfl, hb4⟩
          rw [show toldS (again (.fin (.broke true))) = ⟨#[97, 110, 103, 101, 108]⟩ from rfl]
          go_wp2_with fail
          go_ret
          exact ⟨rfl, below_step (below_step (below_step hb hb2) hb3) hb4⟩
theorem walk_Play (a : Option Addr) (la ca : Nat) (za : List Int) (w : World) (h0 : IsRow .u8 w a la ca za) :
    Calls Try.prog 3 #[.slice a la ca] w fun e w' => e = .returned (.bool true) ∧ Below w.heap.size w w' := by
  by_cases hs : la ≤ 1048576
  · exact in_Play a la ca za w h0 hs
  · go_enter Try.func3, Try.ntmps3
    go_wp2_with fail
    go_ret
    exact ⟨rfl, Below.refl _ _⟩
end Go.Proofs.Ytaeibhpkcikaaaa
