/- The statements on residuals: their walks. -/
import Derived.Test.YtildffhpepgjmaaCanon
namespace Go.Proofs.Ytildffhpepgjmaa
set_option linter.unusedVariables false
set_option linter.unusedSimpArgs false
open Go.RowKit Go.Shelf
set_option maxRecDepth 100000
set_option maxHeartbeats 1000000

theorem in_BeforeMost (a : Option Addr) (la ca : Nat) (za : List Int) (b : Option Addr) (lb cb : Nat) (zb : List Int) (w : World) (h0 : IsRow .u8 w a la ca za) (h1 : IsRow .u8 w b lb cb zb) (hs : la ≤ 1048576) (hq : lb ≤ 1048576) :
    Calls Try.prog 5 #[.slice a la ca, .slice b lb cb] w fun e w' => e = .returned (.bool true) ∧ Below w.heap.size w w' := by
  go_enter Try.func5, Try.ntmps5
  go_wp2_with fail
  refine (DrawBeforeMost_at a la ca za w h0).mono ?_
  rintro e w1 ⟨⟨s, u, hs1, hu1, rfl⟩, hb⟩
  replace h1 := h1.keep hb
  clear h0
  cases hok : okTr s && okTr u
  · have HK := Lib.hid hok; clear hok
    go_wp2_with fail
    refine (impl_BeforeMost s u (tr_size hs1) (tr_size hu1) _).mono ?_
    rintro e wn1 ⟨rfl, hbn⟩
    replace hb := below_step hb hbn
    clear hbn
    rw [HK.out]
    go_wp2_with fail
    refine (spec_BeforeMost s u _ (tr_size hs1) (tr_size hu1)).mono ?_
    rintro e w' ⟨rfl, rfl⟩
    rw [HK.out]
    go_wp2_with fail
    go_ret
    exact ⟨rfl, hb⟩
  · have hh : okTr s = true ∧ okTr u = true := by simpa using hok
    obtain ⟨t, HT, rfl⟩ := tr_of hh.1
    obtain ⟨q, HU, rfl⟩ := tr_of hh.2
    clear hh hok hs1 hu1
    go_wp2_with fail
    refine (m_Most HT HU _).mono ?_
    rintro e w2 ⟨rfl, hb2⟩
    replace h1 := h1.keep hb2
    replace hb := below_step hb hb2
    clear hb2
    go_wp2_with fail
    refine (s_Most HT HU _).mono ?_
    rintro e w' ⟨rfl, rfl⟩
    go_wp2_with fail
    refine (DrawDualTrans_at b lb cb zb w2 h1).mono ?_
    rintro e w3 ⟨⟨v, hv, rfl⟩, hb3⟩
    replace hb := below_step hb hb3
    clear hb3 h1
    have MM := Mon.most HT.ok HU.ok
    have E2 := Lib.hid (law_most_self HT HU)
    have E3 : ((txt 16 (thenT (mostT t q) t)).toList == (txt 16 q).toList) = goB t q := by rw [str_beq]; rfl
    cases hvk : okTr v
    · have HK := Lib.hid hvk; clear hvk
      go_wp2_with fail
      refine (impl_TransValid v (tr_size hv) _).mono ?_
      rintro e wn4 ⟨rfl, hbn⟩
      replace hb := below_step hb hbn
      clear hbn
      rw [HK.out]
      go_wp2_with fail
      refine (m_Valid MM _).mono ?_
      rintro e wn5 ⟨rfl, hbn⟩
      replace hb := below_step hb hbn
      clear hbn
      go_wp2_with fail
      refine (m_dcThen MM HT _).mono ?_
      rintro e wn6 ⟨rfl, hbn⟩
      replace hb := below_step hb hbn
      clear hbn
      go_wp2_with fail
      refine (m_Ref (MM.then HT) HU _).mono ?_
      rintro e wn7 ⟨rfl, hbn⟩
      replace hb := below_step hb hbn
      clear hbn
      rw [E2.out]
      go_wp2_with fail
      refine (m_Can HT HU _).mono ?_
      rintro e wn8 ⟨rfl, hbn⟩
      replace hb := below_step hb hbn
      clear hbn
      go_wp2_with fail
      refine (m_dcThen MM HT _).mono ?_
      rintro e wn9 ⟨rfl, hbn⟩
      replace hb := below_step hb hbn
      clear hbn
      go_wp2_with fail
      refine (m_Can HT HU _).mono ?_
      rintro e wn10 ⟨rfl, hbn⟩
      replace hb := below_step hb hbn
      clear hbn
      go_wp2_with fail
      refine (s_Can HT HU _).mono ?_
      rintro e w' ⟨rfl, rfl⟩
      go_wp2_with fail
      go_ret
      exact ⟨rfl, hb⟩
    · obtain ⟨x, HX, rfl⟩ := tr_of hvk
      have E1 := Lib.hid (law_most HT HU HX)
      clear hvk hv
      go_wp2_with fail
      refine (m_Valid HX _).mono ?_
      rintro e wn12 ⟨rfl, hbn⟩
      replace hb := below_step hb hbn
      clear hbn
      go_wp2_with fail
      refine (m_dcThen HX HT _).mono ?_
      rintro e wn13 ⟨rfl, hbn⟩
      replace hb := below_step hb hbn
      clear hbn
      go_wp2_with fail
      refine (m_Ref (HX.then HT) HU _).mono ?_
      rintro e wn14 ⟨rfl, hbn⟩
      replace hb := below_step hb hbn
      clear hbn
      rw [E1.out]
      go_wp2_with fail
      refine (m_Ref HX MM _).mono ?_
      rintro e wn15 ⟨rfl, hbn⟩
      replace hb := below_step hb hbn
      clear hbn
      go_wp2_with fail
      refine (m_Valid MM _).mono ?_
      rintro e wn16 ⟨rfl, hbn⟩
      replace hb := below_step hb hbn
      clear hbn
      go_wp2_with fail
      refine (m_dcThen MM HT _).mono ?_
      rintro e wn17 ⟨rfl, hbn⟩
      replace hb := below_step hb hbn
      clear hbn
      go_wp2_with fail
      refine (m_Ref (MM.then HT) HU _).mono ?_
      rintro e wn18 ⟨rfl, hbn⟩
      replace hb := below_step hb hbn
      clear hbn
      rw [E2.out]
      go_wp2_with fail
      refine (m_Can HT HU _).mono ?_
      rintro e wn19 ⟨rfl, hbn⟩
      replace hb := below_step hb hbn
      clear hbn
      go_wp2_with fail
      refine (m_dcThen MM HT _).mono ?_
      rintro e wn20 ⟨rfl, hbn⟩
      replace hb := below_step hb hbn
      clear hbn
      go_wp2_with fail
      refine (m_Can HT HU _).mono ?_
      rintro e wn21 ⟨rfl, hbn⟩
      replace hb := below_step hb hbn
      clear hbn
      go_wp2_with fail
      refine (s_Can HT HU _).mono ?_
      rintro e w' ⟨rfl, rfl⟩
      go_wp2_with fail
      go_ret
      exact ⟨rfl, hb⟩
theorem walk_BeforeMost (a : Option Addr) (la ca : Nat) (za : List Int) (b : Option Addr) (lb cb : Nat) (zb : List Int) (w : World) (h0 : IsRow .u8 w a la ca za) (h1 : IsRow .u8 w b lb cb zb) :
    Calls Try.prog 5 #[.slice a la ca, .slice b lb cb] w fun e w' => e = .returned (.bool true) ∧ Below w.heap.size w w' := by
  by_cases hs : la ≤ 1048576
  · by_cases hq : lb ≤ 1048576
    · exact in_BeforeMost a la ca za b lb cb zb w h0 h1 hs hq
    · go_enter Try.func5, Try.ntmps5
      go_wp2_with fail
      go_ret
      exact ⟨rfl, Below.refl _ _⟩
  · go_enter Try.func5, Try.ntmps5
    go_wp2_with fail
    go_ret
    exact ⟨rfl, Below.refl _ _⟩

theorem in_BeforeLeast (a : Option Addr) (la ca : Nat) (za : List Int) (b : Option Addr) (lb cb : Nat) (zb : List Int) (w : World) (h0 : IsRow .u8 w a la ca za) (h1 : IsRow .u8 w b lb cb zb) (hs : la ≤ 1048576) (hq : lb ≤ 1048576) :
    Calls Try.prog 6 #[.slice a la ca, .slice b lb cb] w fun e w' => e = .returned (.bool true) ∧ Below w.heap.size w w' := by
  go_enter Try.func6, Try.ntmps6
  go_wp2_with fail
  refine (DrawBeforeLeast_at a la ca za w h0).mono ?_
  rintro e w1 ⟨⟨s, u, hs1, hu1, rfl⟩, hb⟩
  replace h1 := h1.keep hb
  clear h0
  cases hok : okTr s && okTr u
  · have HK := Lib.hid hok; clear hok
    go_wp2_with fail
    refine (impl_BeforeLeast s u (tr_size hs1) (tr_size hu1) _).mono ?_
    rintro e wn23 ⟨rfl, hbn⟩
    replace hb := below_step hb hbn
    clear hbn
    rw [HK.out]
    go_wp2_with fail
    refine (spec_BeforeLeast s u _ (tr_size hs1) (tr_size hu1)).mono ?_
    rintro e w' ⟨rfl, rfl⟩
    rw [HK.out]
    go_wp2_with fail
    go_ret
    exact ⟨rfl, hb⟩
  · have hh : okTr s = true ∧ okTr u = true := by simpa using hok
    obtain ⟨t, HT, rfl⟩ := tr_of hh.1
    obtain ⟨q, HU, rfl⟩ := tr_of hh.2
    clear hh hok hs1 hu1
    go_wp2_with fail
    refine (m_Least HT HU _).mono ?_
    rintro e w2 ⟨rfl, hb2⟩
    replace h1 := h1.keep hb2
    replace hb := below_step hb hb2
    clear hb2
    go_wp2_with fail
    refine (s_Least HT HU _).mono ?_
    rintro e w' ⟨rfl, rfl⟩
    go_wp2_with fail
    refine (DrawDualTrans_at b lb cb zb w2 h1).mono ?_
    rintro e w3 ⟨⟨v, hv, rfl⟩, hb3⟩
    replace hb := below_step hb hb3
    clear hb3 h1
    have MM := Mon.least HT.ok HU.ok
    have MD := Mon.most (t := dualT t) HT.dual.ok HU.dual.ok
    have E2 := Lib.hid (law_least_self HT HU)
    have E3 : Hid (txt 16 (dualT (mostT (dualT t) (dualT q))) = txt 16 (leastT t q)) := (law_dual_most HT.ok HU.ok).txt
    cases hvk : okTr v
    · have HK := Lib.hid hvk; clear hvk
      go_wp2_with fail
      refine (impl_TransValid v (tr_size hv) _).mono ?_
      rintro e wn26 ⟨rfl, hbn⟩
      replace hb := below_step hb hbn
      clear hbn
      rw [HK.out]
      go_wp2_with fail
      refine (m_dcDual HT _).mono ?_
      rintro e wn27 ⟨rfl, hbn⟩
      replace hb := below_step hb hbn
      clear hbn
      go_wp2_with fail
      refine (m_dcDual HU _).mono ?_
      rintro e wn28 ⟨rfl, hbn⟩
      replace hb := below_step hb hbn
      clear hbn
      go_wp2_with fail
      refine (m_Most HT.dual HU.dual _).mono ?_
      rintro e wn29 ⟨rfl, hbn⟩
      replace hb := below_step hb hbn
      clear hbn
      go_wp2_with fail
      refine (m_Valid MM _).mono ?_
      rintro e wn30 ⟨rfl, hbn⟩
      replace hb := below_step hb hbn
      clear hbn
      go_wp2_with fail
      refine (m_dcThen MM HT _).mono ?_
      rintro e wn31 ⟨rfl, hbn⟩
      replace hb := below_step hb hbn
      clear hbn
      go_wp2_with fail
      refine (m_Ref HU (MM.then HT) _).mono ?_
      rintro e wn32 ⟨rfl, hbn⟩
      replace hb := below_step hb hbn
      clear hbn
      rw [E2.out]
      go_wp2_with fail
      refine (m_dcDual MD _).mono ?_
      rintro e wn33 ⟨rfl, hbn⟩
      replace hb := below_step hb hbn
      clear hbn
      rw [E3.out]
      go_wp2_with fail
      go_ret
      exact ⟨rfl, hb⟩
    · obtain ⟨x, HX, rfl⟩ := tr_of hvk
      have E1 := Lib.hid (law_least HT HU HX)
      clear hvk hv
      go_wp2_with fail
      refine (m_Valid HX _).mono ?_
      rintro e wn34 ⟨rfl, hbn⟩
      replace hb := below_step hb hbn
      clear hbn
      go_wp2_with fail
      refine (m_dcThen HX HT _).mono ?_
      rintro e wn35 ⟨rfl, hbn⟩
      replace hb := below_step hb hbn
      clear hbn
      go_wp2_with fail
      refine (m_Ref HU (HX.then HT) _).mono ?_
      rintro e wn36 ⟨rfl, hbn⟩
      replace hb := below_step hb hbn
      clear hbn
      rw [E1.out]
      go_wp2_with fail
      refine (m_Ref MM HX _).mono ?_
      rintro e wn37 ⟨rfl, hbn⟩
      replace hb := below_step hb hbn
      clear hbn
      go_wp2_with fail
      refine (m_dcDual HT _).mono ?_
      rintro e wn38 ⟨rfl, hbn⟩
      replace hb := below_step hb hbn
      clear hbn
      go_wp2_with fail
      refine (m_dcDual HU _).mono ?_
      rintro e wn39 ⟨rfl, hbn⟩
      replace hb := below_step hb hbn
      clear hbn
      go_wp2_with fail
      refine (m_Most HT.dual HU.dual _).mono ?_
      rintro e wn40 ⟨rfl, hbn⟩
      replace hb := below_step hb hbn
      clear hbn
      go_wp2_with fail
      refine (m_Valid MM _).mono ?_
      rintro e wn41 ⟨rfl, hbn⟩
      replace hb := below_step hb hbn
      clear hbn
      go_wp2_with fail
      refine (m_dcThen MM HT _).mono ?_
      rintro e wn42 ⟨rfl, hbn⟩
      replace hb := below_step hb hbn
      clear hbn
      go_wp2_with fail
      refine (m_Ref HU (MM.then HT) _).mono ?_
      rintro e wn43 ⟨rfl, hbn⟩
      replace hb := below_step hb hbn
      clear hbn
      rw [E2.out]
      go_wp2_with fail
      refine (m_dcDual MD _).mono ?_
      rintro e wn44 ⟨rfl, hbn⟩
      replace hb := below_step hb hbn
      clear hbn
      rw [E3.out]
      go_wp2_with fail
      go_ret
      exact ⟨rfl, hb⟩
theorem walk_BeforeLeast (a : Option Addr) (la ca : Nat) (za : List Int) (b : Option Addr) (lb cb : Nat) (zb : List Int) (w : World) (h0 : IsRow .u8 w a la ca za) (h1 : IsRow .u8 w b lb cb zb) :
    Calls Try.prog 6 #[.slice a la ca, .slice b lb cb] w fun e w' => e = .returned (.bool true) ∧ Below w.heap.size w w' := by
  by_cases hs : la ≤ 1048576
  · by_cases hq : lb ≤ 1048576
    · exact in_BeforeLeast a la ca za b lb cb zb w h0 h1 hs hq
    · go_enter Try.func6, Try.ntmps6
      go_wp2_with fail
      go_ret
      exact ⟨rfl, Below.refl _ _⟩
  · go_enter Try.func6, Try.ntmps6
    go_wp2_with fail
    go_ret
    exact ⟨rfl, Below.refl _ _⟩

theorem in_Behind (a : Option Addr) (la ca : Nat) (za : List Int) (b : Option Addr) (lb cb : Nat) (zb : List Int) (w : World) (h0 : IsRow .u8 w a la ca za) (h1 : IsRow .u8 w b lb cb zb) (hs : la ≤ 1048576) (hq : lb ≤ 1048576) :
    Calls Try.prog 8 #[.slice a la ca, .slice b lb cb] w fun e w' => e = .returned (.bool true) ∧ Below w.heap.size w w' := by
  go_enter Try.func8, Try.ntmps8
  go_wp2_with fail
  refine (DrawBehindAngel_at a la ca za w h0).mono ?_
  rintro e w1 ⟨⟨s, u, hs1, hu1, rfl⟩, hb⟩
  replace h1 := h1.keep hb
  clear h0
  cases hok : okTxt 4 s && okTr u
  · have HK := Lib.hid hok; clear hok
    go_wp2_with fail
    refine (impl_BehindAngel s u (tr_size hs1) (tr_size hu1) _).mono ?_
    rintro e wn45 ⟨rfl, hbn⟩
    replace hb := below_step hb hbn
    clear hbn
    rw [HK.out]
    go_wp2_with fail
    refine (spec_BehindAngel s u _ (tr_size hs1) (tr_size hu1)).mono ?_
    rintro e w' ⟨rfl, rfl⟩
    rw [HK.out]
    go_wp2_with fail
    refine (impl_BehindDemon s u (tr_size hs1) (tr_size hu1) _).mono ?_
    rintro e wn47 ⟨rfl, hbn⟩
    replace hb := below_step hb hbn
    clear hbn
    rw [HK.out]
    go_wp2_with fail
    refine (spec_BehindDemon s u _ (tr_size hs1) (tr_size hu1)).mono ?_
    rintro e w' ⟨rfl, rfl⟩
    rw [HK.out]
    go_wp2_with fail
    go_ret
    exact ⟨rfl, hb⟩
  · have hh : okTxt 4 s = true ∧ okTr u = true := by simpa using hok
    obtain ⟨r, HR, rfl⟩ := rel_of hh.1
    obtain ⟨q, HU, rfl⟩ := tr_of hh.2
    clear hh hok hs1 hu1
    go_wp2_with fail
    refine (m_BehA HR HU _).mono ?_
    rintro e w2 ⟨rfl, hb2⟩
    replace h1 := h1.keep hb2
    replace hb := below_step hb hb2
    clear hb2
    go_wp2_with fail
    refine (s_BehA HR HU _).mono ?_
    rintro e w' ⟨rfl, rfl⟩
    go_wp2_with fail
    refine (m_BehD HR HU _).mono ?_
    rintro e w4 ⟨rfl, hb4⟩
    replace h1 := h1.keep hb4
    replace hb := below_step hb hb4
    clear hb4
    go_wp2_with fail
    refine (s_BehD HR HU _).mono ?_
    rintro e w' ⟨rfl, rfl⟩
    go_wp2_with fail
    refine (m_Angel HR _).mono ?_
    rintro e w5 ⟨rfl, hb5⟩
    replace h1 := h1.keep hb5
    replace hb := below_step hb hb5
    clear hb5
    go_wp2_with fail
    refine (m_Demon HR _).mono ?_
    rintro e w6 ⟨rfl, hb6⟩
    replace h1 := h1.keep hb6
    replace hb := below_step hb hb6
    clear hb6
    go_wp2_with fail
    refine (DrawDualTrans_at b lb cb zb w6 h1).mono ?_
    rintro e w3 ⟨⟨v, hv, rfl⟩, hb3⟩
    replace hb := below_step hb hb3
    clear hb3 h1
    have MA := Mon.angel HR
    have MD := Mon.demon HR
    have MX : Mon (behA r q) := (Mon.demon (turn_ok r)).then HU
    have MY : Mon (behD r q) := (Mon.angel (turn_ok r)).then HU
    have E3 : Hid (refT (thenT (angelT r) (behA r q)) q = true) := by show _ = _; rw [law_behind_angel HR HU MX]; exact ref_refl MX.ok
    have E4 : Hid (refT q (thenT (demonT r) (behD r q)) = true) := by show _ = _; rw [law_behind_demon HR HU MY]; exact ref_refl MY.ok
    cases hvk : okTr v
    · have HK := Lib.hid hvk; clear hvk
      go_wp2_with fail
      refine (impl_TransValid v (tr_size hv) _).mono ?_
      rintro e wn51 ⟨rfl, hbn⟩
      replace hb := below_step hb hbn
      clear hbn
      rw [HK.out]
      go_wp2_with fail
      refine (m_dcThen MA MX _).mono ?_
      rintro e wn52 ⟨rfl, hbn⟩
      replace hb := below_step hb hbn
      clear hbn
      go_wp2_with fail
      refine (m_Ref (MA.then MX) HU _).mono ?_
      rintro e wn53 ⟨rfl, hbn⟩
      replace hb := below_step hb hbn
      clear hbn
      rw [E3.out]
      go_wp2_with fail
      refine (m_dcThen MD MY _).mono ?_
      rintro e wn54 ⟨rfl, hbn⟩
      replace hb := below_step hb hbn
      clear hbn
      go_wp2_with fail
      refine (m_Ref HU (MD.then MY) _).mono ?_
      rintro e wn55 ⟨rfl, hbn⟩
      replace hb := below_step hb hbn
      clear hbn
      rw [E4.out]
      go_wp2_with fail
      go_ret
      exact ⟨rfl, hb⟩
    · obtain ⟨x, HX, rfl⟩ := tr_of hvk
      have E1 : Hid (refT (thenT (angelT r) x) q = refT x (behA r q)) := law_behind_angel HR HU HX
      have E2 : Hid (refT q (thenT (demonT r) x) = refT (behD r q) x) := law_behind_demon HR HU HX
      clear hvk hv
      go_wp2_with fail
      refine (m_Valid HX _).mono ?_
      rintro e wn56 ⟨rfl, hbn⟩
      replace hb := below_step hb hbn
      clear hbn
      go_wp2_with fail
      refine (m_dcThen MA HX _).mono ?_
      rintro e wn57 ⟨rfl, hbn⟩
      replace hb := below_step hb hbn
      clear hbn
      go_wp2_with fail
      refine (m_Ref (MA.then HX) HU _).mono ?_
      rintro e wn58 ⟨rfl, hbn⟩
      replace hb := below_step hb hbn
      clear hbn
      rw [E1.out]
      go_wp2_with fail
      refine (m_Ref HX MX _).mono ?_
      rintro e wn59 ⟨rfl, hbn⟩
      replace hb := below_step hb hbn
      clear hbn
      go_wp2_with fail
      refine (m_dcThen MD HX _).mono ?_
      rintro e wn60 ⟨rfl, hbn⟩
      replace hb := below_step hb hbn
      clear hbn
      go_wp2_with fail
      refine (m_Ref HU (MD.then HX) _).mono ?_
      rintro e wn61 ⟨rfl, hbn⟩
      replace hb := below_step hb hbn
      clear hbn
      rw [E2.out]
      go_wp2_with fail
      refine (m_Ref MY HX _).mono ?_
      rintro e wn62 ⟨rfl, hbn⟩
      replace hb := below_step hb hbn
      clear hbn
      go_wp2_with fail
      refine (m_dcThen MA MX _).mono ?_
      rintro e wn63 ⟨rfl, hbn⟩
      replace hb := below_step hb hbn
      clear hbn
      go_wp2_with fail
      refine (m_Ref (MA.then MX) HU _).mono ?_
      rintro e wn64 ⟨rfl, hbn⟩
      replace hb := below_step hb hbn
      clear hbn
      rw [E3.out]
      go_wp2_with fail
      refine (m_dcThen MD MY _).mono ?_
      rintro e wn65 ⟨rfl, hbn⟩
      replace hb := below_step hb hbn
      clear hbn
      go_wp2_with fail
      refine (m_Ref HU (MD.then MY) _).mono ?_
      rintro e wn66 ⟨rfl, hbn⟩
      replace hb := below_step hb hbn
      clear hbn
      rw [E4.out]
      go_wp2_with fail
      go_ret
      exact ⟨rfl, hb⟩
theorem walk_Behind (a : Option Addr) (la ca : Nat) (za : List Int) (b : Option Addr) (lb cb : Nat) (zb : List Int) (w : World) (h0 : IsRow .u8 w a la ca za) (h1 : IsRow .u8 w b lb cb zb) :
    Calls Try.prog 8 #[.slice a la ca, .slice b lb cb] w fun e w' => e = .returned (.bool true) ∧ Below w.heap.size w w' := by
  by_cases hs : la ≤ 1048576
  · by_cases hq : lb ≤ 1048576
    · exact in_Behind a la ca za b lb cb zb w h0 h1 hs hq
    · go_enter Try.func8, Try.ntmps8
      go_wp2_with fail
      go_ret
      exact ⟨rfl, Below.refl _ _⟩
  · go_enter Try.func8, Try.ntmps8
    go_wp2_with fail
    go_ret
    exact ⟨rfl, Below.refl _ _⟩

theorem zeros_eq : txt 16 (fun _ => 0) = ⟨#[48, 48, 48, 48, 48, 48, 48, 48, 48, 48, 48, 48, 48, 48, 48, 48]⟩ := by decide +kernel
theorem fs_eq : txt 16 (fun _ => 15) = ⟨#[102, 102, 102, 102, 102, 102, 102, 102, 102, 102, 102, 102, 102, 102, 102, 102]⟩ := by decide +kernel

theorem zeros_l : ([48, 48, 48, 48, 48, 48, 48, 48, 48, 48, 48, 48, 48, 48, 48, 48] : List UInt8) = (txt 16 (fun _ => 0)).toList := by rw [zeros_eq, ByteArray.toList_eq]
theorem fs_l : ([102, 102, 102, 102, 102, 102, 102, 102, 102, 102, 102, 102, 102, 102, 102, 102] : List UInt8) = (txt 16 (fun _ => 15)).toList := by rw [fs_eq, ByteArray.toList_eq]

theorem in_Beside (a : Option Addr) (la ca : Nat) (za : List Int) (b : Option Addr) (lb cb : Nat) (zb : List Int) (w : World) (h0 : IsRow .u8 w a la ca za) (h1 : IsRow .u8 w b lb cb zb) (hs : la ≤ 1048576) (hq : lb ≤ 1048576) :
    Calls Try.prog 7 #[.slice a la ca, .slice b lb cb] w fun e w' => e = .returned (.bool true) ∧ Below w.heap.size w w' := by
  go_enter Try.func7, Try.ntmps7
  go_wp2_with fail
  refine (DrawBesideAngel_at a la ca za w h0).mono ?_
  rintro e w1 ⟨⟨s, u, hs1, hu1, rfl⟩, hb⟩
  replace h1 := h1.keep hb
  clear h0
  cases hok : okTr s && okTr u
  · have HK := Lib.hid hok; clear hok
    go_wp2_with fail
    refine (impl_BesideAngel s u (tr_size hs1) (tr_size hu1) _).mono ?_
    rintro e wn67 ⟨rfl, hbn⟩
    replace hb := below_step hb hbn
    clear hbn
    rw [HK.out]
    go_wp2_with fail
    refine (spec_BesideAngel s u _ (tr_size hs1) (tr_size hu1)).mono ?_
    rintro e wn68 ⟨rfl, hbn⟩
    replace hb := below_step hb hbn
    clear hbn
    rw [HK.out]
    go_wp2_with fail
    refine (impl_BesideDemon s u (tr_size hs1) (tr_size hu1) _).mono ?_
    rintro e wn69 ⟨rfl, hbn⟩
    replace hb := below_step hb hbn
    clear hbn
    rw [HK.out]
    go_wp2_with fail
    refine (spec_BesideDemon s u _ (tr_size hs1) (tr_size hu1)).mono ?_
    rintro e wn70 ⟨rfl, hbn⟩
    replace hb := below_step hb hbn
    clear hbn
    rw [HK.out]
    go_wp2_with fail
    go_ret
    exact ⟨rfl, hb⟩
  · have hh : okTr s = true ∧ okTr u = true := by simpa using hok
    obtain ⟨t, HT, rfl⟩ := tr_of hh.1
    obtain ⟨q, HU, rfl⟩ := tr_of hh.2
    clear hh hok hs1 hu1
    go_wp2_with fail
    refine (m_BesA HT HU _).mono ?_
    rintro e w2 ⟨rfl, hb2⟩
    replace h1 := h1.keep hb2
    replace hb := below_step hb hb2
    clear hb2
    go_wp2_with fail
    refine (s_BesA HT HU _).mono ?_
    rintro e w4 ⟨rfl, hb4⟩
    replace h1 := h1.keep hb4
    replace hb := below_step hb hb4
    clear hb4
    go_wp2_with fail
    refine (m_BesD HT HU _).mono ?_
    rintro e w5 ⟨rfl, hb5⟩
    replace h1 := h1.keep hb5
    replace hb := below_step hb hb5
    clear hb5
    go_wp2_with fail
    refine (s_BesD HT HU _).mono ?_
    rintro e w6 ⟨rfl, hb6⟩
    replace h1 := h1.keep hb6
    replace hb := below_step hb hb6
    clear hb6
    go_wp2_with fail
    refine (DrawDualTrans_at b lb cb zb w6 h1).mono ?_
    rintro e w3 ⟨⟨v, hv, rfl⟩, hb3⟩
    replace hb := below_step hb hb3
    clear hb3 h1
    have MA := Mon.beside t q
    have MD := Mon.besideD t q
    have E3 := Lib.hid (beside_ref (t := t) HU)
    have E4 := Lib.hid (ref_besideD (t := t) HU)
    have E5 := Lib.hid (law_beside_self HT HU)
    have E6 := Lib.hid (law_besideD_self HT HU)
    have E7 : ((txt 16 (besideT t q)).toList == [48, 48, 48, 48, 48, 48, 48, 48, 48, 48, 48, 48, 48, 48, 48, 48]) = refT q t := by rw [zeros_l, str_beq]; exact beside_none HT HU
    have E8 : ((txt 16 (besideD t q)).toList == [102, 102, 102, 102, 102, 102, 102, 102, 102, 102, 102, 102, 102, 102, 102, 102]) = refT t q := by rw [fs_l, str_beq]; exact besideD_none HT HU
    cases hvk : okTr v
    · have HK := Lib.hid hvk; clear hvk
      go_wp2_with fail
      refine (impl_TransValid v (tr_size hv) _).mono ?_
      rintro e wn71 ⟨rfl, hbn⟩
      replace hb := below_step hb hbn
      clear hbn
      rw [HK.out]
      go_wp2_with fail
      refine (m_Ref MA HU _).mono ?_
      rintro e wn72 ⟨rfl, hbn⟩
      replace hb := below_step hb hbn
      clear hbn
      rw [E3.out]
      go_wp2_with fail
      refine (m_Ref HU MD _).mono ?_
      rintro e wn73 ⟨rfl, hbn⟩
      replace hb := below_step hb hbn
      clear hbn
      rw [E4.out]
      go_wp2_with fail
      refine (m_dcJoin HT MA _).mono ?_
      rintro e wn74 ⟨rfl, hbn⟩
      replace hb := below_step hb hbn
      clear hbn
      go_wp2_with fail
      refine (m_Ref HU (HT.join MA) _).mono ?_
      rintro e wn75 ⟨rfl, hbn⟩
      replace hb := below_step hb hbn
      clear hbn
      rw [E5.out]
      go_wp2_with fail
      refine (m_dcMeet HT MD _).mono ?_
      rintro e wn76 ⟨rfl, hbn⟩
      replace hb := below_step hb hbn
      clear hbn
      go_wp2_with fail
      refine (m_Ref (HT.meet MD) HU _).mono ?_
      rintro e wn77 ⟨rfl, hbn⟩
      replace hb := below_step hb hbn
      clear hbn
      rw [E6.out]
      go_wp2_with fail
      refine (m_Ref HU HT _).mono ?_
      rintro e wn78 ⟨rfl, hbn⟩
      replace hb := below_step hb hbn
      clear hbn
      go_wp2_with fail
      refine (m_Ref HT HU _).mono ?_
      rintro e wn79 ⟨rfl, hbn⟩
      replace hb := below_step hb hbn
      clear hbn
      go_wp2_with fail
      go_ret
      exact ⟨rfl, hb⟩
    · obtain ⟨x, HX, rfl⟩ := tr_of hvk
      have E1 := Lib.hid (law_beside HT HU HX)
      have E2 := Lib.hid (law_besideD HT HU HX)
      clear hvk hv
      go_wp2_with fail
      refine (m_Valid HX _).mono ?_
      rintro e wn80 ⟨rfl, hbn⟩
      replace hb := below_step hb hbn
      clear hbn
      go_wp2_with fail
      refine (m_dcJoin HT HX _).mono ?_
      rintro e wn81 ⟨rfl, hbn⟩
      replace hb := below_step hb hbn
      clear hbn
      go_wp2_with fail
      refine (m_Ref HU (HT.join HX) _).mono ?_
      rintro e wn82 ⟨rfl, hbn⟩
      replace hb := below_step hb hbn
      clear hbn
      rw [E1.out]
      go_wp2_with fail
      refine (m_Ref MA HX _).mono ?_
      rintro e wn83 ⟨rfl, hbn⟩
      replace hb := below_step hb hbn
      clear hbn
      go_wp2_with fail
      refine (m_dcMeet HT HX _).mono ?_
      rintro e wn84 ⟨rfl, hbn⟩
      replace hb := below_step hb hbn
      clear hbn
      go_wp2_with fail
      refine (m_Ref (HT.meet HX) HU _).mono ?_
      rintro e wn85 ⟨rfl, hbn⟩
      replace hb := below_step hb hbn
      clear hbn
      rw [E2.out]
      go_wp2_with fail
      refine (m_Ref HX MD _).mono ?_
      rintro e wn86 ⟨rfl, hbn⟩
      replace hb := below_step hb hbn
      clear hbn
      go_wp2_with fail
      refine (m_Ref MA HU _).mono ?_
      rintro e wn87 ⟨rfl, hbn⟩
      replace hb := below_step hb hbn
      clear hbn
      rw [E3.out]
      go_wp2_with fail
      refine (m_Ref HU MD _).mono ?_
      rintro e wn88 ⟨rfl, hbn⟩
      replace hb := below_step hb hbn
      clear hbn
      rw [E4.out]
      go_wp2_with fail
      refine (m_dcJoin HT MA _).mono ?_
      rintro e wn89 ⟨rfl, hbn⟩
      replace hb := below_step hb hbn
      clear hbn
      go_wp2_with fail
      refine (m_Ref HU (HT.join MA) _).mono ?_
      rintro e wn90 ⟨rfl, hbn⟩
      replace hb := below_step hb hbn
      clear hbn
      rw [E5.out]
      go_wp2_with fail
      refine (m_dcMeet HT MD _).mono ?_
      rintro e wn91 ⟨rfl, hbn⟩
      replace hb := below_step hb hbn
      clear hbn
      go_wp2_with fail
      refine (m_Ref (HT.meet MD) HU _).mono ?_
      rintro e wn92 ⟨rfl, hbn⟩
      replace hb := below_step hb hbn
      clear hbn
      rw [E6.out]
      go_wp2_with fail
      refine (m_Ref HU HT _).mono ?_
      rintro e wn93 ⟨rfl, hbn⟩
      replace hb := below_step hb hbn
      clear hbn
      go_wp2_with fail
      refine (m_Ref HT HU _).mono ?_
      rintro e wn94 ⟨rfl, hbn⟩
      replace hb := below_step hb hbn
      clear hbn
      go_wp2_with fail
      go_ret
      exact ⟨rfl, hb⟩
theorem walk_Beside (a : Option Addr) (la ca : Nat) (za : List Int) (b : Option Addr) (lb cb : Nat) (zb : List Int) (w : World) (h0 : IsRow .u8 w a la ca za) (h1 : IsRow .u8 w b lb cb zb) :
    Calls Try.prog 7 #[.slice a la ca, .slice b lb cb] w fun e w' => e = .returned (.bool true) ∧ Below w.heap.size w w' := by
  by_cases hs : la ≤ 1048576
  · by_cases hq : lb ≤ 1048576
    · exact in_Beside a la ca za b lb cb zb w h0 h1 hs hq
    · go_enter Try.func7, Try.ntmps7
      go_wp2_with fail
      go_ret
      exact ⟨rfl, Below.refl _ _⟩
  · go_enter Try.func7, Try.ntmps7
    go_wp2_with fail
    go_ret
    exact ⟨rfl, Below.refl _ _⟩

theorem in_ResidualSequence (a : Option Addr) (la ca : Nat) (za : List Int) (b : Option Addr) (lb cb : Nat) (zb : List Int) (w : World) (h0 : IsRow .u8 w a la ca za) (h1 : IsRow .u8 w b lb cb zb) (hs : la ≤ 1048576) (hq : lb ≤ 1048576) :
    Calls Try.prog 4 #[.slice a la ca, .slice b lb cb] w fun e w' => e = .returned (.bool true) ∧ Below w.heap.size w w' := by
  go_enter Try.func4, Try.ntmps4
  go_wp2_with fail
  refine (DrawCanGoBefore_at a la ca za w h0).mono ?_
  rintro e w1 ⟨⟨s, u, hs1, hu1, rfl⟩, hb⟩
  replace h1 := h1.keep hb
  clear h0
  cases hok : okTr s && okTr u
  · have HK := Lib.hid hok
    have hn : (okTr s && okTr u && goB (val s) (val u)) = false := by rw [hok]; rfl
    have HN := Lib.hid hn
    clear hn
    go_wp2_with fail
    refine (impl_CanGoBefore s u (tr_size hs1) (tr_size hu1) _).mono ?_
    rintro e w2 ⟨rfl, hb2⟩
    rw [HN.out]
    replace h1 := h1.keep hb2
    replace hb := below_step hb hb2
    clear hb2
    go_wp2_with fail
    refine (DrawDualTrans_at b lb cb zb w2 h1).mono ?_
    rintro e w3 ⟨⟨v, hv, rfl⟩, hb3⟩
    replace hb := below_step hb hb3
    clear hb3 h1
    go_wp2_with fail
    refine (spec_CanGoBefore s u _ (tr_size hs1) (tr_size hu1)).mono ?_
    rintro e w' ⟨rfl, rfl⟩
    rw [HN.out]
    cases h1 : okTr s
    · have HS := Lib.hid h1; clear h1 hok
      go_wp2_with fail
      refine (impl_TransValid s (tr_size hs1) _).mono ?_
      rintro e wn96 ⟨rfl, hbn⟩
      replace hb := below_step hb hbn
      clear hbn
      rw [HS.out]
      go_wp2_with fail
      refine (spec_CanGoBefore s u _ (tr_size hs1) (tr_size hu1)).mono ?_
      rintro e w' ⟨rfl, rfl⟩
      rw [HN.out]
      go_wp2_with fail
      go_ret
      exact ⟨rfl, hb⟩
    · have HS := Lib.hid h1
      have HU : Hid (okTr u = false) := by show okTr u = false; rw [h1, Bool.true_and] at hok; exact hok
      clear h1 hok
      go_wp2_with fail
      refine (impl_TransValid s (tr_size hs1) _).mono ?_
      rintro e wn98 ⟨rfl, hbn⟩
      replace hb := below_step hb hbn
      clear hbn
      rw [HS.out]
      go_wp2_with fail
      refine (impl_TransValid u (tr_size hu1) _).mono ?_
      rintro e wn99 ⟨rfl, hbn⟩
      replace hb := below_step hb hbn
      clear hbn
      rw [HU.out]
      go_wp2_with fail
      refine (spec_CanGoBefore s u _ (tr_size hs1) (tr_size hu1)).mono ?_
      rintro e w' ⟨rfl, rfl⟩
      rw [HN.out]
      go_wp2_with fail
      go_ret
      exact ⟨rfl, hb⟩
  · have hh : okTr s = true ∧ okTr u = true := by simpa using hok
    obtain ⟨t, HT, rfl⟩ := tr_of hh.1
    obtain ⟨q, HU, rfl⟩ := tr_of hh.2
    clear hh hok hs1 hu1
    go_wp2_with fail
    refine (m_Can HT HU _).mono ?_
    rintro e w2 ⟨rfl, hb2⟩
    replace h1 := h1.keep hb2
    replace hb := below_step hb hb2
    clear hb2
    go_wp2_with fail
    refine (DrawDualTrans_at b lb cb zb w2 h1).mono ?_
    rintro e w3 ⟨⟨v, hv, rfl⟩, hb3⟩
    replace hb := below_step hb hb3
    clear hb3 h1
    cases hvk : okTr v
    · have HK := Lib.hid hvk; clear hvk
      go_wp2_with fail
      refine (s_Can HT HU _).mono ?_
      rintro e w' ⟨rfl, rfl⟩
      go_wp2_with fail
      refine (m_Valid HT _).mono ?_
      rintro e wn102 ⟨rfl, hbn⟩
      replace hb := below_step hb hbn
      clear hbn
      go_wp2_with fail
      refine (m_Valid HU _).mono ?_
      rintro e wn103 ⟨rfl, hbn⟩
      replace hb := below_step hb hbn
      clear hbn
      go_wp2_with fail
      refine (impl_TransValid v (tr_size hv) _).mono ?_
      rintro e wn104 ⟨rfl, hbn⟩
      replace hb := below_step hb hbn
      clear hbn
      rw [HK.out]
      go_wp2_with fail
      refine (s_Can HT HU _).mono ?_
      rintro e w' ⟨rfl, rfl⟩
      go_wp2_with fail
      go_ret
      exact ⟨rfl, hb⟩
    · obtain ⟨x, HX, rfl⟩ := tr_of hvk
      clear hvk hv
      have MV := HX.then HT
      have MB := Mon.most HT.ok HU.ok
      have ME := Mon.least HT.ok HU.ok
      have E1 : Hid (txt 16 (mostT (thenT x t) q) = txt 16 (mostT x (mostT t q))) := (law_most_then HT HU HX).txt
      have E2 : Hid (txt 16 (leastT (thenT x t) q) = txt 16 (leastT x (leastT t q))) := (law_least_then HT HU HX).txt
      have E3 : Hid (goB t (thenT x t) = true) := decide_eq_true (law_go HT HX).txt
      have E4 : Hid (goB skipT q = true) := decide_eq_true (law_go_skip HU).txt
      have ES : Hid (hexes = txt 16 skipT) := skip_txt.symm
      go_wp2_with fail
      refine (s_Can HT HU _).mono ?_
      rintro e w' ⟨rfl, rfl⟩
      go_wp2_with fail
      refine (m_Valid HT _).mono ?_
      rintro e wn107 ⟨rfl, hbn⟩
      replace hb := below_step hb hbn
      clear hbn
      go_wp2_with fail
      refine (m_Valid HU _).mono ?_
      rintro e wn108 ⟨rfl, hbn⟩
      replace hb := below_step hb hbn
      clear hbn
      go_wp2_with fail
      refine (m_Valid HX _).mono ?_
      rintro e wn109 ⟨rfl, hbn⟩
      replace hb := below_step hb hbn
      clear hbn
      go_wp2_with fail
      refine (m_dcThen HX HT _).mono ?_
      rintro e wn110 ⟨rfl, hbn⟩
      replace hb := below_step hb hbn
      clear hbn
      go_wp2_with fail
      refine (m_Most MV HU _).mono ?_
      rintro e wn111 ⟨rfl, hbn⟩
      replace hb := below_step hb hbn
      clear hbn
      rw [E1.out]
      go_wp2_with fail
      refine (m_Most HT HU _).mono ?_
      rintro e wn112 ⟨rfl, hbn⟩
      replace hb := below_step hb hbn
      clear hbn
      go_wp2_with fail
      refine (m_Most HX MB _).mono ?_
      rintro e wn113 ⟨rfl, hbn⟩
      replace hb := below_step hb hbn
      clear hbn
      go_wp2_with fail
      refine (m_dcThen HX HT _).mono ?_
      rintro e wn114 ⟨rfl, hbn⟩
      replace hb := below_step hb hbn
      clear hbn
      go_wp2_with fail
      refine (m_Least MV HU _).mono ?_
      rintro e wn115 ⟨rfl, hbn⟩
      replace hb := below_step hb hbn
      clear hbn
      rw [E2.out]
      go_wp2_with fail
      refine (m_Least HT HU _).mono ?_
      rintro e wn116 ⟨rfl, hbn⟩
      replace hb := below_step hb hbn
      clear hbn
      go_wp2_with fail
      refine (m_Least HX ME _).mono ?_
      rintro e wn117 ⟨rfl, hbn⟩
      replace hb := below_step hb hbn
      clear hbn
      go_wp2_with fail
      refine (m_dcThen HX HT _).mono ?_
      rintro e wn118 ⟨rfl, hbn⟩
      replace hb := below_step hb hbn
      clear hbn
      go_wp2_with fail
      refine (m_Can HT MV _).mono ?_
      rintro e wn119 ⟨rfl, hbn⟩
      replace hb := below_step hb hbn
      clear hbn
      rw [E3.out]
      have hcan := m_Can Mon.skip HU
      rw [skip_txt] at hcan
      go_wp2_with fail
      refine (hcan _).mono ?_
      rintro e wn120 ⟨rfl, hbn⟩
      replace hb := below_step hb hbn
      clear hbn
      rw [E4.out]
      go_wp2_with fail
      go_ret
      exact ⟨rfl, hb⟩
theorem walk_ResidualSequence (a : Option Addr) (la ca : Nat) (za : List Int) (b : Option Addr) (lb cb : Nat) (zb : List Int) (w : World) (h0 : IsRow .u8 w a la ca za) (h1 : IsRow .u8 w b lb cb zb) :
    Calls Try.prog 4 #[.slice a la ca, .slice b lb cb] w fun e w' => e = .returned (.bool true) ∧ Below w.heap.size w w' := by
  by_cases hs : la ≤ 1048576
  · by_cases hq : lb ≤ 1048576
    · exact in_ResidualSequence a la ca za b lb cb zb w h0 h1 hs hq
    · go_enter Try.func4, Try.ntmps4
      go_wp2_with fail
      go_ret
      exact ⟨rfl, Below.refl _ _⟩
  · go_enter Try.func4, Try.ntmps4
    go_wp2_with fail
    go_ret
    exact ⟨rfl, Below.refl _ _⟩

theorem in_DataConditions (a : Option Addr) (la ca : Nat) (za : List Int) (b : Option Addr) (lb cb : Nat) (zb : List Int) (w : World) (h0 : IsRow .u8 w a la ca za) (h1 : IsRow .u8 w b lb cb zb) (hs : la ≤ 1048576) (hq : lb ≤ 1048576) :
    Calls Try.prog 3 #[.slice a la ca, .slice b lb cb] w fun e w' => e = .returned (.bool true) ∧ Below w.heap.size w w' := by
  go_enter Try.func3, Try.ntmps3
  go_wp2_with fail
  refine (DrawConcreteCondition_at a la ca za w h0).mono ?_
  rintro e w1 ⟨⟨s, p, hs1, hp1, hp2, rfl⟩, hb⟩
  clear h0 h1
  cases hok : okTxt 4 s && isC p
  · have HK := Lib.hid hok; clear hok
    go_wp2_with fail
    refine (impl_ConcreteCondition s p (tr_size hs1) _).mono ?_
    rintro e wn121 ⟨rfl, hbn⟩
    replace hb := below_step hb hbn
    clear hbn
    rw [HK.out]
    go_wp2_with fail
    refine (impl_AbstractCondition s p (tr_size hs1) _).mono ?_
    rintro e wn122 ⟨rfl, hbn⟩
    replace hb := below_step hb hbn
    clear hbn
    rw [HK.out]
    go_wp2_with fail
    refine (spec_ConcreteCondition s p _ (tr_size hs1)).mono ?_
    rintro e w' ⟨rfl, rfl⟩
    rw [HK.out]
    go_wp2_with fail
    have e1 : orMinus false (dia (val s) p) = -1 := rfl
    have e2 : orMinus false (box (turn (val s)) p) = -1 := rfl
    rw [e1, e2]
    go_wp2_with fail
    refine (spec_AbstractCondition s p _ (tr_size hs1)).mono ?_
    rintro e w' ⟨rfl, rfl⟩
    rw [HK.out]
    rw [e2]
    go_wp2_with fail
    refine (spec_ConcreteCondition s p _ (tr_size hs1)).mono ?_
    rintro e w' ⟨rfl, rfl⟩
    rw [HK.out]
    rw [e1]
    go_wp2_with fail
    refine (spec_AbstractCondition s p _ (tr_size hs1)).mono ?_
    rintro e w' ⟨rfl, rfl⟩
    rw [HK.out]
    rw [e2]
    go_wp2_with fail
    go_ret
    exact ⟨rfl, hb⟩
  · have hh : okTxt 4 s = true ∧ isC p = true := by simpa using hok
    obtain ⟨r, HR, rfl⟩ := rel_of hh.1
    have HP := isC_get hh.2
    clear hh hok hs1 hp1 hp2
    have hd := dia_ok r p
    have hx := box_ok (turn r) p
    have d0 : decide (dia r p < 0) = false := by rw [decide_eq_false_iff_not]; have := hd.1; omega
    have hq16 : C ((lb : Int) % 16) := ⟨by omega, by omega⟩
    have MC := Mon.conc HR (Mon.ass HP)
    have E1 : Hid ((bits .andNot .i64 (dia r p) ((lb : Int) % 16) == 0) = (bits .andNot .i64 p (box (turn r) ((lb : Int) % 16)) == 0)) := by
      show _ = _
      rw [Bool.eq_iff_iff, beq_iff_eq, beq_iff_eq, sub_dif hd hq16, sub_dif HP (box_ok _ _)]
      exact gal HR HP hq16
    have E2 : Hid ((bits .andNot .i64 (dia r (box (turn r) p)) p == 0) = true) := by
      show _ = _
      rw [beq_iff_eq, sub_dif (dia_ok _ _) HP]
      exact (gal HR hx HP).2 (Sub.refl _)
    have E3 : Hid ((bits .andNot .i64 p (box (turn r) (dia r p)) == 0) = true) := by
      show _ = _
      rw [beq_iff_eq, sub_dif HP (box_ok _ _)]
      exact (gal HR HP hd).1 (Sub.refl _)
    have E4 : Hid (refT (concT r (assT p)) (assT (dia r p)) = true) := law_ass HR HP
    go_wp2_with fail
    refine (m_Conc HR HP _).mono ?_
    rintro e wn127 ⟨rfl, hbn⟩
    replace hb := below_step hb hbn
    clear hbn
    go_wp2_with fail
    refine (m_Abs HR HP _).mono ?_
    rintro e wn128 ⟨rfl, hbn⟩
    replace hb := below_step hb hbn
    clear hbn
    go_wp2_with fail
    refine (s_Conc HR HP _).mono ?_
    rintro e w' ⟨rfl, rfl⟩
    go_wp2_with fail
    refine (s_Abs HR HP _).mono ?_
    rintro e w' ⟨rfl, rfl⟩
    go_wp2_with fail
    refine (m_dcAssert HP _).mono ?_
    rintro e wn131 ⟨rfl, hbn⟩
    replace hb := below_step hb hbn
    clear hbn
    go_wp2_with fail
    refine (m_CLeast HR (Mon.ass HP) _).mono ?_
    rintro e wn132 ⟨rfl, hbn⟩
    replace hb := below_step hb hbn
    clear hbn
    go_wp2_with fail
    refine (m_Implies hd hq16 _).mono ?_
    rintro e w' ⟨rfl, rfl⟩
    rw [E1.out]
    go_wp2_with fail
    refine (m_Abs HR hq16 _).mono ?_
    rintro e wn134 ⟨rfl, hbn⟩
    replace hb := below_step hb hbn
    clear hbn
    go_wp2_with fail
    refine (m_Implies HP (box_ok _ _) _).mono ?_
    rintro e w' ⟨rfl, rfl⟩
    go_wp2_with fail
    refine (m_Conc HR hx _).mono ?_
    rintro e wn136 ⟨rfl, hbn⟩
    replace hb := below_step hb hbn
    clear hbn
    go_wp2_with fail
    refine (m_Implies (dia_ok _ _) HP _).mono ?_
    rintro e w' ⟨rfl, rfl⟩
    rw [E2.out]
    go_wp2_with fail
    refine (m_Abs HR hd _).mono ?_
    rintro e wn138 ⟨rfl, hbn⟩
    replace hb := below_step hb hbn
    clear hbn
    go_wp2_with fail
    refine (m_Implies HP (box_ok _ _) _).mono ?_
    rintro e w' ⟨rfl, rfl⟩
    rw [E3.out]
    cases hf : isFn r
    · have HF := Lib.hid hf; clear hf
      go_wp2_with fail
      refine (m_IsFn HR _).mono ?_
      rintro e wn140 ⟨rfl, hbn⟩
      replace hb := below_step hb hbn
      clear hbn
      rw [HF.out]
      go_wp2_with fail
      go_ret
      exact ⟨rfl, hb⟩
    · have HF := Lib.hid hf; clear hf
      go_wp2_with fail
      refine (m_IsFn HR _).mono ?_
      rintro e wn141 ⟨rfl, hbn⟩
      replace hb := below_step hb hbn
      clear hbn
      rw [HF.out]
      go_wp2_with fail
      refine (m_dcAssert hd _).mono ?_
      rintro e wn142 ⟨rfl, hbn⟩
      replace hb := below_step hb hbn
      clear hbn
      go_wp2_with fail
      refine (m_Ref MC (Mon.ass hd) _).mono ?_
      rintro e wn143 ⟨rfl, hbn⟩
      replace hb := below_step hb hbn
      clear hbn
      rw [E4.out]
      go_wp2_with fail
      go_ret
      exact ⟨rfl, hb⟩
theorem walk_DataConditions (a : Option Addr) (la ca : Nat) (za : List Int) (b : Option Addr) (lb cb : Nat) (zb : List Int) (w : World) (h0 : IsRow .u8 w a la ca za) (h1 : IsRow .u8 w b lb cb zb) :
    Calls Try.prog 3 #[.slice a la ca, .slice b lb cb] w fun e w' => e = .returned (.bool true) ∧ Below w.heap.size w w' := by
  by_cases hs : la ≤ 1048576
  · by_cases hq : lb ≤ 1048576
    · exact in_DataConditions a la ca za b lb cb zb w h0 h1 hs hq
    · go_enter Try.func3, Try.ntmps3
      go_wp2_with fail
      go_ret
      exact ⟨rfl, Below.refl _ _⟩
  · go_enter Try.func3, Try.ntmps3
    go_wp2_with fail
    go_ret
    exact ⟨rfl, Below.refl _ _⟩
end Go.Proofs.Ytildffhpepgjmaa
