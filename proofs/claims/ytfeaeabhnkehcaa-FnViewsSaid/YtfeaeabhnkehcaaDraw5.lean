/- Contracts: the drawing of a view and of two transformers. -/
import Derived.Test.YtfeaeabhnkehcaaDraw4
import Derived.Test.YtfeaeabhnkehcaaSp11
namespace Go.Proofs.Ytfeaeabhnkehcaa
set_option linter.unusedVariables false
set_option linter.unusedSimpArgs false
open Go.RowKit Go.Shelf
set_option maxRecDepth 100000
set_option maxHeartbeats 1000000

theorem orNone_size (b : Bool) (f : Nat → Int) : (orNone b (txt 16 f)).size ≤ 20 := by
  unfold orNone; split
  · rw [txt_size]; decide
  · decide

theorem l11Case_at (b n p : Nat) (sl : Value) (w : World) (h : Rd w b sl n p) (hp : p ≤ 500000) :
    Calls Try.prog 64 #[.pointer (some ⟨b, 0, none⟩)] w fun e w' => (∃ s t u : ByteArray, s.size ≤ 20 ∧ t.size ≤ 20 ∧ u.size ≤ 20 ∧ e = .returned (.tuple #[.string s, .string t, .string u])) ∧ ∃ q, q ≤ p + 700 ∧ Rd w' b sl n q ∧ Below b w w' := by
  go_enter Try.func64, Try.ntmps64
  go_wp2_with fail
  refine (l11View_at b n p sl _ h (by omega)).mono ?_
  rintro e w1 ⟨⟨s, hs, rfl⟩, q, hq, H1, hb1⟩
  go_wp2_with fail
  refine (l4Open_at b n q sl _ H1 (by omega)).mono ?_
  rintro e w2 ⟨⟨t, ht, rfl⟩, q2, hq2, H2, hb2⟩
  go_wp2_with fail
  refine (l4Open_at b n q2 sl _ H2 (by omega)).mono ?_
  rintro e w3 ⟨⟨u, hu, rfl⟩, q3, hq3, H3, hb3⟩
  have hb4 := (hb1.trans hb2).trans hb3
  clear h H1 H2 hb1 hb2 hb3
  cases hok : okTxt 4 s && (okTr t && okTr u)
  · have HK := Lib.hid hok; clear hok
    go_wp2_with fail
    refine (spec_l11Ready _ _ _ _ (by omega) (by omega) (by omega)).mono ?_
    rintro e w' ⟨rfl, rfl⟩
    rw [HK.out]
    go_wp2_with fail
    go_ret3
    exact ⟨⟨s, t, u, by omega, ht, hu, rfl⟩, q3, by omega, H3, hb4⟩
  · have HK := Lib.hid hok
    have hh : okTxt 4 s = true ∧ okTr t = true ∧ okTr u = true := by simpa using hok
    have HT := Lib.hid (okTr_txt hh.2.1)
    have HU := Lib.hid (okTr_txt hh.2.2)
    clear hok hh
    go_wp2_with fail
    refine (spec_l11Ready _ _ _ _ (by omega) (by omega) (by omega)).mono ?_
    rintro e w' ⟨rfl, rfl⟩
    rw [HK.out]
    go_wp2_with fail
    refine (pick_at b n q3 4 sl _ H3 (by omega) (by decide) (by decide)).mono ?_
    rintro e w4 ⟨⟨v, rfl, hv⟩, hP⟩
    have H5 := hP.rd
    have hb5 := hb4.trans hP.below
    clear hP H3 hb4
    obtain h2 | h2 | h2 | h2 : v = 0 ∨ v = 1 ∨ v = 2 ∨ 3 ≤ v := by omega
    · subst h2
      go_wp2_with fail
      refine (spec_ConcreteLeast _ _ _ (by omega) (by omega)).mono ?_
      rintro e w' ⟨rfl, rfl⟩
      go_wp2_with fail
      go_ret3
      exact ⟨⟨s, t, _, by omega, ht, orNone_size _ _, rfl⟩, q3 + 1, by omega, H5, hb5⟩
    · subst h2
      go_wp2_with fail
      refine (spec_AbstractMost _ _ _ (by omega) (by omega)).mono ?_
      rintro e w' ⟨rfl, rfl⟩
      go_wp2_with fail
      go_ret3
      exact ⟨⟨s, _, u, by omega, orNone_size _ _, hu, rfl⟩, q3 + 1, by omega, H5, hb5⟩
    · subst h2
      go_wp2_with fail
      refine (spec_l3Join _ _ _ HT HU).mono ?_
      rintro e w' ⟨rfl, rfl⟩
      go_wp2_with fail
      go_ret3
      exact ⟨⟨_, t, _, by decide, ht, by rw [txt_size]; decide, rfl⟩, q3 + 1, by omega, H5, hb5⟩
    · have e0 : ((v : Int) == 0) = false := by rw [beq_eq_false_iff_ne]; omega
      have e1 : ((v : Int) == 1) = false := by rw [beq_eq_false_iff_ne]; omega
      have e2 : ((v : Int) == 2) = false := by rw [beq_eq_false_iff_ne]; omega
      go_wp2_with fail
      go_ret3
      exact ⟨⟨s, t, u, by omega, ht, hu, rfl⟩, q3 + 1, by omega, H5, hb5⟩

theorem DrawSimulatesForward_at (a : Option Addr) (len cap : Nat) (zs : List Int) (w : World) (h : IsRow .u8 w a len cap zs) :
    Calls Try.prog 26 #[.slice a len cap] w fun e w' => (∃ s t u : ByteArray, s.size ≤ 20 ∧ t.size ≤ 20 ∧ u.size ≤ 20 ∧ e = .returned (.tuple #[.string s, .string t, .string u])) ∧ Below w.heap.size w w' := by
  go_enter Try.func26, Try.ntmps26
  go_wp2_with fail
  refine (l14Open_at a len cap zs w h).mono ?_
  rintro e w1 ⟨rfl, ⟨sl, n, H⟩, hb⟩
  go_wp2_with fail
  refine (l11Case_at _ n 0 sl _ H (by omega)).mono ?_
  rintro e w2 ⟨⟨s, t, u, hs, ht, hu, rfl⟩, q, hq, H2, hb2⟩
  go_wp2_with fail
  go_ret3
  exact ⟨⟨s, t, u, hs, ht, hu, rfl⟩, hb.trans hb2⟩

theorem DrawSimulatesBackward_at (a : Option Addr) (len cap : Nat) (zs : List Int) (w : World) (h : IsRow .u8 w a len cap zs) :
    Calls Try.prog 19 #[.slice a len cap] w fun e w' => (∃ s t u : ByteArray, s.size ≤ 20 ∧ t.size ≤ 20 ∧ u.size ≤ 20 ∧ e = .returned (.tuple #[.string s, .string t, .string u])) ∧ Below w.heap.size w w' := by
  go_enter Try.func19, Try.ntmps19
  go_wp2_with fail
  refine (l14Open_at a len cap zs w h).mono ?_
  rintro e w1 ⟨rfl, ⟨sl, n, H⟩, hb⟩
  go_wp2_with fail
  refine (l11Case_at _ n 0 sl _ H (by omega)).mono ?_
  rintro e w2 ⟨⟨s, t, u, hs, ht, hu, rfl⟩, q, hq, H2, hb2⟩
  go_wp2_with fail
  go_ret3
  exact ⟨⟨s, t, u, hs, ht, hu, rfl⟩, hb.trans hb2⟩
end Go.Proofs.Ytfeaeabhnkehcaa
