/- The statement on concrete contracts: its walk. -/
import Derived.Test.YtaeibhpkcikaaaaLawE
import Derived.Test.YtaeibhpkcikaaaaConc
import Derived.Test.YtaeibhpkcikaaaaImS
import Derived.Test.YtaeibhpkcikaaaaDraw8
namespace Go.Proofs.Ytaeibhpkcikaaaa
set_option linter.unusedVariables false
set_option linter.unusedSimpArgs false
open Go.RowKit Go.Shelf
set_option maxRecDepth 100000
set_option maxHeartbeats 20000000

theorem impl_ConcreteContract_no (r c : ByteArray) (hr : r.size ≤ 4611686018427387904) (hc : c.size ≤ 4611686018427387904) (hk : (okTxt 4 r && isFn (val r) && isCt c) = false) (w : World) :
    Calls Try.prog 23 #[.string r, .string c] w fun e w' => e = .returned (.tuple #[.string ⟨#[]⟩, .bool false]) ∧ Below w.heap.size w w' := by
  cases k1 : (okTxt 4 r && isFn (val r))
  · exact impl_ConcreteContract_no1 r c hr hc w k1
  · exact impl_ConcreteContract_no2 r c hr hc w k1 (by simpa [k1] using hk)
theorem i_Conc {r : ByteArray} (hr : r.size ≤ 4611686018427387904) (h : okTxt 4 r = true) {p : Int} (hp : C p) (w : World) : Calls Try.prog 28 #[.string r, .int .i64 p] w fun e w' => e = .returned (.int .i64 (dia (val r) p)) ∧ Below w.heap.size w w' := by
  have H := impl_ConcreteCondition r p hr w
  rwa [h, isC_mk hp, Bool.true_and, show ∀ x, orMinus true x = x from fun _ => rfl] at H
theorem impl_self (t : Ct) (ht : t.WF) (hl : t.len ≤ 200) (hk : t.knows concOp = true) (w : World) :
    Calls Try.prog 23 #[.string ⟨#[49, 50, 52, 56]⟩, .string t.text] w fun e w' => e = .returned (.tuple #[.string t.text, .bool true]) ∧ Below w.heap.size w w' := by
  have H := impl_ConcreteContract_yes selfT t ht hl (by decide) w self_ok (by show _ = _; rw [self_ok]; exact self_fn)
  have e1 : t.fits (val selfT) = true := t.self_fits ht
  have e2 : t.conc (val selfT) = t := t.self_conc ht
  rw [hk, e1, e2] at H
  exact H
theorem in_ConcreteContract (a : Option Addr) (la ca : Nat) (za : List Int) (b : Option Addr) (lb cb : Nat) (zb : List Int) (w : World) (h0 : IsRow .u8 w a la ca za) (h1 : IsRow .u8 w b lb cb zb) (hs : la ≤ 1048576) (hq : lb ≤ 1048576) :
    Calls Try.prog 6 #[.slice a la ca, .slice b lb cb] w fun e w' => e = .returned (.bool true) ∧ Below w.heap.size w w' := by
  go_enter Try.func6, Try.ntmps6
  go_wp2_with fail
  refine (DrawConcreteContract_at a la ca za w h0).mono ?_
  rintro e w1 ⟨⟨r, c, hr, hc, rfl⟩, hb⟩
  have hr' : r.size ≤ 4611686018427387904 := by omega
  have hc' : c.size ≤ 4611686018427387904 := by omega
  cases hk : (okTxt 4 r && isFn (val r) && isCt c)
  · have HI := Lib.hid (impl_ConcreteContract_no r c hr' hc' hk)
    have HJ := Lib.hid (spec_ConcreteContract r c hr' hc' · hk)
    clear hk
    go_wp2_with fail
    refine (HI.out _).mono ?_
    rintro e w2 ⟨rfl, hb2⟩
    go_wp2_with fail
    refine (HJ.out _).mono ?_
    rintro e w' ⟨rfl, rfl⟩
    go_wp2_with fail
    go_ret
    exact ⟨rfl, below_step hb hb2⟩
  · have hh : (okTxt 4 r = true ∧ isFn (val r) = true) ∧ isCt c = true := by simpa using hk
    obtain ⟨t, ht, rfl, hlt⟩ := ct_of hh.2
    have HR := Lib.hid hh.1.1
    have HX : Hid ((okTxt 4 r && isFn (val r)) = true) := by show _ = _; rw [hh.1.1, hh.1.2]; rfl
    have HC := Lib.hid hh.2
    have HI := Lib.hid (impl_ConcreteContract_yes r t ht hlt hr' · HR HX)
    have HJ := Lib.hid (spec_ConcreteContract_yes r t hr' ht hlt HC HR HX)
    clear hk hh hc hc'
    cases hok : t.knows concOp && t.fits (val r)
    · have HOK := Lib.hid hok
      clear hok
      go_wp2_with fail
      refine (HI.out _).mono ?_
      rintro e w2 ⟨rfl, hb2⟩
      rw [HOK.out]
      go_wp2_with fail
      refine (HJ.out _).mono ?_
      rintro e w3 ⟨rfl, hb3⟩
      rw [HOK.out]
      go_wp2_with fail
      go_ret
      exact ⟨rfl, below_step (below_step hb hb2) hb3⟩
    · have hh : t.knows concOp = true ∧ t.fits (val r) = true := by simpa using hok
      have HOK := Lib.hid hok
      have hu := t.conc_wf (val r) ht
      have hlu : (t.conc (val r)).len ≤ 200 := by rw [t.conc_len (val r) ht]; exact hlt
      have hT : Hid (orNone (t.knows concOp && t.fits (val r)) (t.conc (val r)).text = (t.conc (val r)).text) := by show _ = _; rw [hok]; rfl
      have hfw := t.conc_fwd (val_ok r) ht hh.1 hh.2
      have HSelf := Lib.hid (impl_self t ht hlt hh.1)
      have HSim : Hid (∀ w, Calls Try.prog 25 #[.string r, .string t.text, .string (t.conc (val r)).text] w fun e w' => e = .returned (.bool true) ∧ Below w.heap.size w w') := fun w => by
        have := impl_SimulatesContract_yes r t (t.conc (val r)) ht hu hlt hlu hr' w HR
        rwa [hfw] at this
      have HSz1 := Lib.hid (impl_SizeOfContract t ht hlt)
      have HSz2 : Hid (∀ w, Calls Try.prog 26 #[.string (t.conc (val r)).text] w fun e w' => e = .returned (.int .i64 (t.num : Nat)) ∧ Below w.heap.size w w') := fun w => by
        have := impl_SizeOfContract _ hu hlu w
        rwa [t.conc_num] at this
      obtain ⟨k, hk16, hke⟩ : ∃ k : Nat, k < 16 ∧ ((lb : Int) % 16) = k := ⟨lb % 16, Nat.mod_lt _ (by decide), by omega⟩
      have hkc := c_nat hk16
      have hA := (t.mon ht).ok k
      have hE := ((t.conc (val r)).mon hu).ok (dia (val r) (k : Int)).toNat
      have HN1 : Hid (∀ w, Calls Try.prog 29 #[.string t.text, .int .i64 k] w fun e w' => e = .returned (.int .i64 (t.sem k)) ∧ Below w.heap.size w w') := fun w => by
        have := impl_NeedsBefore t ht hlt hkc w
        rwa [Int.toNat_natCast] at this
      have HN2 := Lib.hid (impl_NeedsBefore (t.conc (val r)) hu hlu (dia_ok (val r) (k : Int)))
      have HC1 := Lib.hid (fun w => i_Conc hr' HR.out hkc w)
      have HC2 := Lib.hid (fun w => i_Conc hr' HR.out hA w)
      have HIm : Hid (∀ w, Calls Try.prog 27 #[.int .i64 (dia (val r) (t.sem k)), .int .i64 ((t.conc (val r)).sem (dia (val r) (k : Int)).toNat)] w fun e w' => e = .returned (.bool true) ∧ w = w') := fun w => by
        have h1 := i_Implies (dia_ok (val r) (t.sem k)) hE w
        have h2 := (fwd_sub (val_ok r) (t.mon ht) ((t.conc (val r)).mon hu)).1 hfw k hk16
        rwa [(sub_dif (dia_ok _ _) hE).2 h2] at h1
      clear hok hh hu hlu hfw hA hE hkc hk16
      generalize t.conc (val r) = u at *
      generalize u.text = U at *
      generalize t.text = T at *
      generalize dia (val r) (t.sem k) = d1 at *
      generalize u.sem (dia (val r) (k : Int)).toNat = d3 at *
      generalize dia (val r) (k : Int) = d2 at *
      generalize t.sem k = d0 at *
      go_wp2_with fail
      refine (HI.out _).mono ?_
      rintro e w2 ⟨rfl, hb2⟩
      rw [hT.out, HOK.out]
      go_wp2_with fail
      refine (HJ.out _).mono ?_
      rintro e w3 ⟨rfl, hb3⟩
      rw [hT.out, HOK.out]
      replace hb3 := below_step (below_step hb hb2) hb3
      go_wp2_with fail
      refine (HSelf.out _).mono ?_
      rintro e w4 ⟨rfl, hb4⟩
      replace hb4 := below_step hb3 hb4
      clear hb hb2 hb3 HI HJ HSelf
      go_wp2_with fail
      refine (HSim.out _).mono ?_
      rintro e w5 ⟨rfl, hb5⟩
      replace hb5 := below_step hb4 hb5
      clear hb4
      go_wp2_with fail
      refine (HSz2.out _).mono ?_
      rintro e w6 ⟨rfl, hb6⟩
      replace hb6 := below_step hb5 hb6
      clear hb5
      go_wp2_with fail
      refine (HSz1.out _).mono ?_
      rintro e w7 ⟨rfl, hb7⟩
      replace hb7 := below_step hb6 hb7
      clear hb6
      go_wp2_with fail
      refine (HN1.out _).mono ?_
      rintro e w8 ⟨rfl, hb8⟩
      replace hb8 := below_step hb7 hb8
      clear hb7
      go_wp2_with fail
      refine (HC2.out _).mono ?_
      rintro e w9 ⟨rfl, hb9⟩
      replace hb9 := below_step hb8 hb9
      clear hb8
      go_wp2_with fail
      refine (HC1.out _).mono ?_
      rintro e w10 ⟨rfl, hb10⟩
      replace hb10 := below_step hb9 hb10
      clear hb9
      go_wp2_with fail
      refine (HN2.out _).mono ?_
      rintro e w11 ⟨rfl, hb11⟩
      replace hb11 := below_step hb10 hb11
      clear hb10
      go_wp2_with fail
      refine (HIm.out _).mono ?_
      rintro e w' ⟨rfl, rfl⟩
      go_wp2_with fail
      go_ret
      exact ⟨rfl, hb11⟩
theorem walk_ConcreteContract (a : Option Addr) (la ca : Nat) (za : List Int) (b : Option Addr) (lb cb : Nat) (zb : List Int) (w : World) (h0 : IsRow .u8 w a la ca za) (h1 : IsRow .u8 w b lb cb zb) :
    Calls Try.prog 6 #[.slice a la ca, .slice b lb cb] w fun e w' => e = .returned (.bool true) ∧ Below w.heap.size w w' := by
  by_cases hs : la ≤ 1048576
  · by_cases hq : lb ≤ 1048576
    · exact in_ConcreteContract a la ca za b lb cb zb w h0 h1 hs hq
    · go_enter Try.func6, Try.ntmps6
      go_wp2_with fail
      go_ret
      exact ⟨rfl, Below.refl _ _⟩
  · go_enter Try.func6, Try.ntmps6
    go_wp2_with fail
    go_ret
    exact ⟨rfl, Below.refl _ _⟩
end Go.Proofs.Ytaeibhpkcikaaaa
