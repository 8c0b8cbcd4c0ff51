/- The statement on contracts that simulate: its walk. -/
import Derived.Test.YtaeibhpkcikaaaaGreatLawD
import Derived.Test.YtaeibhpkcikaaaaGreatSpC
import Derived.Test.YtaeibhpkcikaaaaGreatConc
import Derived.Test.YtaeibhpkcikaaaaGreatCanon
import Derived.Test.YtaeibhpkcikaaaaGreatImS
import Derived.Test.YtaeibhpkcikaaaaGreatDraw8
namespace Go.Proofs.YtaeibhpkcikaaaaGreat
set_option linter.unusedVariables false
set_option linter.unusedSimpArgs false
open Go.RowKit Go.Shelf
set_option maxRecDepth 100000
set_option maxHeartbeats 20000000

theorem spec_CC_any (r c : ByteArray) (hr : r.size ≤ 4611686018427387904) (hc : c.size ≤ 4611686018427387904) :
    ∃ (d : ByteArray) (ok : Bool), d.size ≤ 200 ∧ ∀ w, Calls Tryz.prog 17 #[.string r, .string c] w fun e w' => e = .returned (.tuple #[.string d, .bool ok]) ∧ Below w.heap.size w w' := by
  cases hk : (okTxt 4 r && isFn (val r) && isCt c)
  · refine ⟨⟨#[]⟩, false, by decide, fun w => (spec_ConcreteContract r c hr hc w hk).mono ?_⟩
    rintro e w' ⟨rfl, rfl⟩
    exact ⟨rfl, Below.refl _ _⟩
  · have hh : (okTxt 4 r = true ∧ isFn (val r) = true) ∧ isCt c = true := by simpa using hk
    obtain ⟨t, ht, rfl, hlt⟩ := ct_of hh.2
    refine ⟨_, _, ?_, fun w => spec_ConcreteContract_yes r t hr ht hlt hh.2 hh.1.1 (by show _ = _; rw [hh.1.1, hh.1.2]; rfl) w⟩
    unfold orNone
    split
    · rw [Ct.text_size, t.conc_len (val r) ht]; exact hlt
    · decide
theorem DrawSimulatesContract_at (a : Option Addr) (len cap : Nat) (zs : List Int) (w : World) (h : IsRow .u8 w a len cap zs) (hlen : len ≤ 1048576) :
    Calls Tryz.prog 4 #[.slice a len cap] w fun e w' => (∃ (r c d : ByteArray), r.size ≤ 5 ∧ c.size ≤ 1000 ∧ d.size ≤ 1000 ∧ e = .returned (.tuple #[.string r, .string c, .string d])) ∧ Below w.heap.size w w' := by
  go_enter Tryz.func4, Tryz.ntmps4
  go_wp2_with fail
  refine (l14Open_at a len cap zs w h).mono ?_
  rintro e w1 ⟨rfl, ⟨sl, n, H⟩, hb⟩
  have h2 := h.keep hb
  go_wp2_with fail
  refine (DrawConcreteContract_at a len cap zs w1 h2).mono ?_
  rintro e w2 ⟨⟨r, c, hr, hc, rfl⟩, hb2⟩
  obtain ⟨d, ok, hd, HCC⟩ := spec_CC_any r c (by omega) (by omega)
  replace HCC := Lib.hid HCC
  have H2 := H.grown hb2
  clear H h2
  replace hb2 := below_step hb hb2
  clear hb
  go_wp2_with fail
  refine (HCC.out _).mono ?_
  rintro e w3 ⟨rfl, hb3⟩
  have H3 := H2.grown hb3
  replace hb3 := below_step hb2 hb3
  clear HCC H2 hb2
  cases ok
  · skip
    go_wp2_with fail
    refine (l5Open_at _ n 0 sl _ H3 (by omega)).mono ?_
    rintro e w5 ⟨⟨d2, hd2, rfl⟩, q, hq, H5, hb5⟩
    go_wp2_with fail
    go_ret3
    exact ⟨⟨r, c, d2, hr, hc, hd2, rfl⟩, hb3.trans hb5⟩
  · go_wp2_with fail
    refine (pick_at _ n 0 2 sl _ H3 (by omega) (by decide) (by decide)).mono ?_
    rintro e w4 ⟨⟨v, rfl, hv⟩, hP⟩
    have H4 := hP.rd
    have hb4 := hb3.trans hP.below
    clear H3 hb3 hP
    obtain h0 | h0 : v = 0 ∨ 1 ≤ v := by omega
    · subst h0
      go_wp2_with fail
      go_ret3
      exact ⟨⟨r, c, d, hr, hc, by omega, rfl⟩, hb4⟩
    · have e0 : ((v : Int) == 0) = false := by rw [beq_eq_false_iff_ne]; omega
      go_wp2_with fail
      refine (l5Open_at _ n (0 + 1) sl _ H4 (by omega)).mono ?_
      rintro e w5 ⟨⟨d2, hd2, rfl⟩, q, hq, H5, hb5⟩
      go_wp2_with fail
      go_ret3
      exact ⟨⟨r, c, d2, hr, hc, hd2, rfl⟩, hb4.trans hb5⟩
theorem impl_ContractValid (c : ByteArray) (hc : c.size ≤ 4611686018427387904) (w : World) : Calls Tryz.prog 7 #[.string c] w fun e w' => e = .returned (.bool (isCt c)) ∧ Below w.heap.size w w' := by
  cases hk : isCt c
  · go_enter Tryz.func7, Tryz.ntmps7
    go_wp2_with fail
    refine (impl_read c hc _).mono ?_
    rintro e w1 ⟨hA, hb1⟩
    obtain rfl : e = .returned (.pointer none) := by
      rcases hA with ⟨t, _, h1, rfl, h3, _⟩ | ⟨_, rfl⟩
      · rw [isCt_text h1 h3] at hk; cases hk
      · rfl
    clear hA hk
    go_wp2_with fail
    go_ret
    exact ⟨rfl, hb1⟩
  · obtain ⟨t, ht, rfl, hlt⟩ := ct_of hk
    clear hk
    go_enter Tryz.func7, Tryz.ntmps7
    go_wp2_with fail
    refine (impl_read t.text hc _).mono ?_
    intro e w1 hA
    obtain ⟨b, rfl, hT, hb1⟩ := read_treeD ht hlt hA
    clear hA
    go_wp2_with fail
    go_ret
    exact ⟨rfl, hb1⟩
theorem impl_Sim_no (r c d : ByteArray) (hr : r.size ≤ 4611686018427387904) (hc : c.size ≤ 4611686018427387904) (hd : d.size ≤ 4611686018427387904) (hk : (isCt c && isCt d) = false) (w : World) :
    Calls Tryz.prog 5 #[.string r, .string c, .string d] w fun e w' => e = .returned (.bool false) ∧ Below w.heap.size w w' := by
  cases k1 : okTxt 4 r
  · exact impl_SimulatesContract_no1 r c d hr hc hd w k1
  · cases k2 : isCt c
    · exact impl_SimulatesContract_no2 r c d hr hc hd w k1 k2
    · exact impl_SimulatesContract_no3 r c d hr hc hd w k1 k2 (by simpa [k2] using hk)
theorem laws_dcTransY (t : Ct) (ht : t.WF) (hlen : t.len ≤ 200) (w : World) : Calls Tryz.prog 14 #[.string t.text] w fun e w' => e = .returned (.string (txt 16 t.sem)) ∧ Below w.heap.size w w' := by
  have HT := Lib.hid (impl_TransOfContract t ht hlen)
  go_enter Tryz.func14, Tryz.ntmps14
  go_wp2_with fail
  refine (HT.out _).mono ?_
  rintro e w1 ⟨rfl, hb1⟩
  go_wp2_with fail
  go_ret
  exact ⟨rfl, hb1⟩
theorem i_ConcY {r : ByteArray} (hr : r.size ≤ 4611686018427387904) (h : okTxt 4 r = true) {p : Int} (hp : C p) (w : World) : Calls Tryz.prog 10 #[.string r, .int .i64 p] w fun e w' => e = .returned (.int .i64 (dia (val r) p)) ∧ Below w.heap.size w w' := by
  have H := impl_ConcreteCondition r p hr w
  rwa [h, isC_mk hp, Bool.true_and, show ∀ x, orMinus true x = x from fun _ => rfl] at H
theorem impl_selfSim (t u : Ct) (ht : t.WF) (hu : u.WF) (hlt : t.len ≤ 200) (hlu : u.len ≤ 200) (w : World) :
    Calls Tryz.prog 5 #[.string ⟨#[49, 50, 52, 56]⟩, .string t.text, .string u.text] w fun e w' => e = .returned (.bool (refT t.sem u.sem)) ∧ Below w.heap.size w w' := by
  have H := impl_SimulatesContract_yes selfT t u ht hu hlt hlu (by decide) w self_ok
  have e : fwdT (val selfT) t.sem u.sem = refT t.sem u.sem := self_fwd (t.mon ht) (u.mon hu)
  rw [e] at H
  exact H
theorem in_SimulatesContract (a : Option Addr) (la ca : Nat) (za : List Int) (w : World) (h0 : IsRow .u8 w a la ca za) (hs : la ≤ 1048576) :
    Calls Tryz.prog 3 #[.slice a la ca] w fun e w' => e = .returned (.bool true) ∧ Below w.heap.size w w' := by
  go_enter Tryz.func3, Tryz.ntmps3
  go_wp2_with fail
  refine (DrawSimulatesContract_at a la ca za w h0 hs).mono ?_
  rintro e w1 ⟨⟨r, c, d, hr, hc, hd, rfl⟩, hb⟩
  have hr' : r.size ≤ 4611686018427387904 := by omega
  have hc' : c.size ≤ 4611686018427387904 := by omega
  have hd' : d.size ≤ 4611686018427387904 := by omega
  cases hk : isCt c && isCt d
  · have HI := Lib.hid (impl_Sim_no r c d hr' hc' hd' hk)
    have HJ := Lib.hid (fun w => spec_SimulatesContract_no r c d w hc' hd' hk)
    have HV := Lib.hid (impl_ContractValid c hc')
    have HW := Lib.hid (impl_ContractValid d hd')
    cases hc2 : isCt c
    · rw [hc2] at HV
      clear hk hc2
      go_wp2_with fail
      refine (HI.out _).mono ?_
      rintro e w2 ⟨rfl, hb2⟩
      go_wp2_with fail
      refine (HJ.out _).mono ?_
      rintro e w' ⟨rfl, rfl⟩
      go_wp2_with fail
      refine (HV.out _).mono ?_
      rintro e w3 ⟨rfl, hb3⟩
      go_wp2_with fail
      refine (HJ.out _).mono ?_
      rintro e w' ⟨rfl, rfl⟩
      go_wp2_with fail
      go_ret
      exact ⟨rfl, below_step (below_step hb hb2) hb3⟩
    · have hd2 : isCt d = false := by simpa [hc2] using hk
      rw [hc2] at HV
      rw [hd2] at HW
      clear hk hc2 hd2
      go_wp2_with fail
      refine (HI.out _).mono ?_
      rintro e w2 ⟨rfl, hb2⟩
      go_wp2_with fail
      refine (HJ.out _).mono ?_
      rintro e w' ⟨rfl, rfl⟩
      go_wp2_with fail
      refine (HV.out _).mono ?_
      rintro e w3 ⟨rfl, hb3⟩
      go_wp2_with fail
      refine (HW.out _).mono ?_
      rintro e w4 ⟨rfl, hb4⟩
      go_wp2_with fail
      refine (HJ.out _).mono ?_
      rintro e w' ⟨rfl, rfl⟩
      go_wp2_with fail
      go_ret
      exact ⟨rfl, below_step (below_step (below_step hb hb2) hb3) hb4⟩
  · have hh : isCt c = true ∧ isCt d = true := by simpa using hk
    have HV := Lib.hid (impl_ContractValid c hc')
    have HW := Lib.hid (impl_ContractValid d hd')
    have HRV := Lib.hid (impl_RelValid r hr')
    rw [hh.1] at HV
    rw [hh.2] at HW
    obtain ⟨t, ht, rfl, hlt⟩ := ct_of hh.1
    obtain ⟨u, hu, rfl, hlu⟩ := ct_of hh.2
    clear hk hh hc hd hc' hd'
    cases k1 : okTxt 4 r
    · have HI : Hid (∀ w, Calls Tryz.prog 5 #[.string r, .string t.text, .string u.text] w fun e w' => e = .returned (.bool false) ∧ Below w.heap.size w w') := fun w => impl_SimulatesContract_no1 r _ _ hr' (szCt hlt) (szCt hlu) w k1
      have HJ : Hid (∀ w, Calls Tryz.prog 6 #[.string r, .string t.text, .string u.text] w fun e w' => e = .returned (.bool false) ∧ Below w.heap.size w w') := fun w => by
        have := spec_SimulatesContract_yes r t u ht hu hlt hlu w hr'
        rwa [k1, Bool.false_and] at this
      rw [k1] at HRV
      clear k1
      go_wp2_with fail
      refine (HI.out _).mono ?_
      rintro e w2 ⟨rfl, hb2⟩
      go_wp2_with fail
      refine (HJ.out _).mono ?_
      rintro e w3 ⟨rfl, hb3⟩
      go_wp2_with fail
      refine (HV.out _).mono ?_
      rintro e w4 ⟨rfl, hb4⟩
      go_wp2_with fail
      refine (HW.out _).mono ?_
      rintro e w5 ⟨rfl, hb5⟩
      go_wp2_with fail
      refine (HRV.out _).mono ?_
      rintro e w6 ⟨rfl, hb6⟩
      go_wp2_with fail
      refine (HJ.out _).mono ?_
      rintro e w7 ⟨rfl, hb7⟩
      go_wp2_with fail
      go_ret
      exact ⟨rfl, below_step (below_step (below_step (below_step (below_step (below_step hb hb2) hb3) hb4) hb5) hb6) hb7⟩
    · have MT := t.mon ht
      have MU := u.mon hu
      have HI : Hid (∀ w, Calls Tryz.prog 5 #[.string r, .string t.text, .string u.text] w fun e w' => e = .returned (.bool (fwdT (val r) t.sem u.sem)) ∧ Below w.heap.size w w') := fun w => impl_SimulatesContract_yes r t u ht hu hlt hlu hr' w k1
      have HJ : Hid (∀ w, Calls Tryz.prog 6 #[.string r, .string t.text, .string u.text] w fun e w' => e = .returned (.bool (fwdT (val r) t.sem u.sem)) ∧ Below w.heap.size w w') := fun w => by
        have := spec_SimulatesContract_yes r t u ht hu hlt hlu w hr'
        rwa [k1, Bool.true_and] at this
      have HF : Hid (∀ w, Calls Tryz.prog 13 #[.string r, .string (txt 16 t.sem), .string (txt 16 u.sem)] w fun e w' => e = .returned (.bool (fwdT (val r) t.sem u.sem)) ∧ Below w.heap.size w w') := fun w => by
        have := impl_SimulatesForward r (txt 16 t.sem) (txt 16 u.sem) hr' (by rw [txt_size]; decide) (by rw [txt_size]; decide) w
        rwa [k1, MT.tr, MU.tr, simF_val (val r) MT MU, Bool.true_and, Bool.true_and, Bool.true_and] at this
      have HS := Lib.hid (impl_selfSim t u ht hu hlt hlu)
      have HR := Lib.hid (impl_RefinesContract t u ht hu hlt hlu)
      have HD1 := Lib.hid (laws_dcTransY t ht hlt)
      have HD2 := Lib.hid (laws_dcTransY u hu hlu)
      have HP : Hid (fwdT (val r) t.sem u.sem = true → ∀ k : Nat, k < 16 → ∃ d0 d1 d2 d3 : Int,
          (∀ w, Calls Tryz.prog 11 #[.string t.text, .int .i64 k] w fun e w' => e = .returned (.int .i64 d0) ∧ Below w.heap.size w w') ∧
          (∀ w, Calls Tryz.prog 10 #[.string r, .int .i64 d0] w fun e w' => e = .returned (.int .i64 d1) ∧ Below w.heap.size w w') ∧
          (∀ w, Calls Tryz.prog 10 #[.string r, .int .i64 k] w fun e w' => e = .returned (.int .i64 d2) ∧ Below w.heap.size w w') ∧
          (∀ w, Calls Tryz.prog 11 #[.string u.text, .int .i64 d2] w fun e w' => e = .returned (.int .i64 d3) ∧ Below w.heap.size w w') ∧
          (∀ w, Calls Tryz.prog 9 #[.int .i64 d1, .int .i64 d3] w fun e w' => e = .returned (.bool true) ∧ w = w')) := fun hf k hk => by
        refine ⟨t.sem k, dia (val r) (t.sem k), dia (val r) (k : Int), u.sem (dia (val r) (k : Int)).toNat, fun w => ?_, fun w => i_ConcY hr' k1 (MT.ok k) w, fun w => i_ConcY hr' k1 (c_nat hk) w, fun w => impl_NeedsBefore u hu hlu (dia_ok _ _) w, fun w => ?_⟩
        · have := impl_NeedsBefore t ht hlt (c_nat hk) w
          rwa [Int.toNat_natCast] at this
        · have h1 := i_Implies (dia_ok (val r) (t.sem k)) (MU.ok (dia (val r) (k : Int)).toNat) w
          have h2 := (fwd_sub (val_ok r) MT MU).1 hf k hk
          rwa [(sub_dif (dia_ok _ _) (MU.ok _)).2 h2] at h1
      rw [k1] at HRV
      clear k1 MT MU
      generalize txt 16 t.sem = T16 at *
      generalize txt 16 u.sem = U16 at *
      generalize refT t.sem u.sem = rf at *
      generalize fwdT (val r) t.sem u.sem = f at *
      generalize t.text = T at *
      generalize u.text = U at *
      cases f
      all_goals
        go_wp2_with fail
        refine (HI.out _).mono ?_
        rintro e w2 ⟨rfl, hb2⟩
        go_wp2_with fail
        refine (HJ.out _).mono ?_
        rintro e w3 ⟨rfl, hb3⟩
        go_wp2_with fail
        refine (HV.out _).mono ?_
        rintro e w4 ⟨rfl, hb4⟩
        go_wp2_with fail
        refine (HW.out _).mono ?_
        rintro e w5 ⟨rfl, hb5⟩
        go_wp2_with fail
        refine (HRV.out _).mono ?_
        rintro e w6 ⟨rfl, hb6⟩
        replace hb6 := below_step (below_step (below_step (below_step (below_step hb hb2) hb3) hb4) hb5) hb6
        clear hb hb2 hb3 hb4 hb5
        go_wp2_with fail
        go_loopw [7] (fun i wr => ∃ k : Nat, k ≤ 16 ∧ i = .int .i64 k ∧ Below w.heap.size w wr) (fun i _ => 16 - (intOf i).toNat)
        case atStart => exact ⟨0, by omega, rfl, hb6⟩
      case round =>
        obtain ⟨k, hk, rfl, hb7⟩ := hrel
        clear hb6
        by_cases hlt16 : k < 16
        · have ek : decide ((k : Int) < 16) = true := by rw [decide_eq_true_eq]; omega
          go_wp2_with fail
          go_roundw
          case rel => exact ⟨k + 1, by omega, by go_num, hb7⟩
          case measure => simp [intOf]; omega
        · obtain rfl : k = 16 := by omega
          go_wp2_with fail
          refine (HS.out _).mono ?_
          rintro e w8 ⟨rfl, hb8⟩
          go_wp2_with fail
          refine (HR.out _).mono ?_
          rintro e w9 ⟨rfl, hb9⟩
          go_wp2_with fail
          refine (HD1.out _).mono ?_
          rintro e w10 ⟨rfl, hb10⟩
          go_wp2_with fail
          refine (HD2.out _).mono ?_
          rintro e w11 ⟨rfl, hb11⟩
          go_wp2_with fail
          refine (HF.out _).mono ?_
          rintro e w12 ⟨rfl, hb12⟩
          go_wp2_with fail
          go_ret
          exact ⟨rfl, below_step (below_step (below_step (below_step (below_step hb7 hb8) hb9) hb10) hb11) hb12⟩
      case round =>
        obtain ⟨k, hk, rfl, hb7⟩ := hrel
        clear hb6
        by_cases hlt16 : k < 16
        · obtain ⟨d0, d1, d2, d3, H1, H2, H3, H4, H5⟩ := HP.out (by trivial) k hlt16
          replace H1 := Lib.hid H1
          replace H2 := Lib.hid H2
          replace H3 := Lib.hid H3
          replace H4 := Lib.hid H4
          replace H5 := Lib.hid H5
          have ek : decide ((k : Int) < 16) = true := by rw [decide_eq_true_eq]; omega
          go_wp2_with fail
          refine (H1.out _).mono ?_
          rintro e w8 ⟨rfl, hb8⟩
          go_wp2_with fail
          refine (H2.out _).mono ?_
          rintro e w9 ⟨rfl, hb9⟩
          go_wp2_with fail
          refine (H3.out _).mono ?_
          rintro e w10 ⟨rfl, hb10⟩
          go_wp2_with fail
          refine (H4.out _).mono ?_
          rintro e w11 ⟨rfl, hb11⟩
          go_wp2_with fail
          refine (H5.out _).mono ?_
          rintro e w' ⟨rfl, rfl⟩
          go_wp2_with fail
          go_roundw
          case rel => exact ⟨k + 1, by omega, by go_num, below_step (below_step (below_step (below_step hb7 hb8) hb9) hb10) hb11⟩
          case measure => simp [intOf]; omega
        · obtain rfl : k = 16 := by omega
          go_wp2_with fail
          refine (HS.out _).mono ?_
          rintro e w8 ⟨rfl, hb8⟩
          go_wp2_with fail
          refine (HR.out _).mono ?_
          rintro e w9 ⟨rfl, hb9⟩
          go_wp2_with fail
          refine (HD1.out _).mono ?_
          rintro e w10 ⟨rfl, hb10⟩
          go_wp2_with fail
          refine (HD2.out _).mono ?_
          rintro e w11 ⟨rfl, hb11⟩
          go_wp2_with fail
          refine (HF.out _).mono ?_
          rintro e w12 ⟨rfl, hb12⟩
          go_wp2_with fail
          go_ret
          exact ⟨rfl, below_step (below_step (below_step (below_step (below_step hb7 hb8) hb9) hb10) hb11) hb12⟩
theorem walk_SimulatesContract (a : Option Addr) (la ca : Nat) (za : List Int) (w : World) (h0 : IsRow .u8 w a la ca za) :
    Calls Tryz.prog 3 #[.slice a la ca] w fun e w' => e = .returned (.bool true) ∧ Below w.heap.size w w' := by
  by_cases hs : la ≤ 1048576
  · exact in_SimulatesContract a la ca za w h0 hs
  · go_enter Tryz.func3, Tryz.ntmps3
    go_wp2_with fail
    go_ret
    exact ⟨rfl, Below.refl _ _⟩
end Go.Proofs.YtaeibhpkcikaaaaGreat
