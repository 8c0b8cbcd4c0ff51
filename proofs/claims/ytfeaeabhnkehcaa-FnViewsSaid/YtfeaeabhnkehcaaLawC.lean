/- The statements on simulations and on undoing: their walks. -/
import Derived.Test.YtfeaeabhnkehcaaRes3
import Derived.Test.YtfeaeabhnkehcaaIm14
import Derived.Test.YtfeaeabhnkehcaaDraw5
namespace Go.Proofs.Ytfeaeabhnkehcaa
set_option linter.unusedVariables false
set_option linter.unusedSimpArgs false
open Go.RowKit Go.Shelf
set_option maxRecDepth 100000
set_option maxHeartbeats 1000000

theorem m_RelValid {r : Nat → Int} (hr : Cond r) (w : World) : Calls Try.prog 22 #[.string (txt 4 r)] w fun e w' => e = .returned (.bool true) ∧ Below w.heap.size w w' := by
  have h := impl_RelValid (txt 4 r) (sz4 r) w
  rwa [okTxt_txt 4 r hr] at h
theorem star_congr {t u : Nat → Int} (hu : Cond u) (e : Eq16 t u) : Eq16 (starT t) (starT u) := fun q hq => by
  rw [starT_at hq, starT_at hq]
  have hc : ∀ n, C (iter (starF u q) n 0) := iter_C fun y _ => C.or (hu _) (c_nat hq)
  have : ∀ n, iter (starF t q) n 0 = iter (starF u q) n 0 := fun n => by
    induction n with
    | zero => simp only [iter]
    | succ n ih =>
      have h := hc n
      show starF t q _ = starF u q _
      rw [ih]
      generalize iter (starF u q) n 0 = y at h
      unfold starF; rw [e _ (lt16 h)]
  unfold lfp
  exact this 4
theorem omega_congr {t u : Nat → Int} (hu : Cond u) (e : Eq16 t u) : Eq16 (omegaT t) (omegaT u) := fun q hq => by
  rw [omegaT_at hq, omegaT_at hq]
  have hc : ∀ n, C (iter (omegaF u q) n 0) := iter_C fun y _ => C.and (hu _) (c_nat hq)
  have : ∀ n, iter (omegaF t q) n 0 = iter (omegaF u q) n 0 := fun n => by
    induction n with
    | zero => simp only [iter]
    | succ n ih =>
      have h := hc n
      show omegaF t q _ = omegaF u q _
      rw [ih]
      generalize iter (omegaF u q) n 0 = y at h
      unfold omegaF; rw [e _ (lt16 h)]
  unfold lfp
  exact this 4
theorem m_Star {t : Nat → Int} (ht : Mon t) (w : World) : Calls Try.prog 32 #[.string (txt 16 t)] w fun e w' => e = .returned (.tuple #[.string (txt 16 (starT t)), .bool true]) ∧ Below w.heap.size w w' := by
  have h := impl_AngelStar (txt 16 t) (sz16 t) w
  rwa [ht.tr, orNone_true, (star_congr ht.ok (v16 ht)).txt] at h
theorem m_Omega {t : Nat → Int} (ht : Mon t) (w : World) : Calls Try.prog 33 #[.string (txt 16 t)] w fun e w' => e = .returned (.tuple #[.string (txt 16 (omegaT t)), .bool true]) ∧ Below w.heap.size w w' := by
  have h := impl_DemonOmega (txt 16 t) (sz16 t) w
  rwa [ht.tr, orNone_true, (omega_congr ht.ok (v16 ht)).txt] at h
theorem comp_v4 {q r : Nat → Int} (hq : Cond q) (hr : Cond r) : txt 4 (comp (val (txt 4 q)) (val (txt 4 r))) = txt 4 (comp q r) := txt_ext fun k hk => by
  unfold comp img; rw [v4 hq k hk]; exact orf_congr (fun _ _ => rfl) fun j hj => v4 hr j hj
theorem m_Comp {q r : Nat → Int} (hq : Cond q) (hr : Cond r) (w : World) : Calls Try.prog 37 #[.string (txt 4 q), .string (txt 4 r)] w fun e w' => e = .returned (.tuple #[.string (txt 4 (comp q r)), .bool true]) ∧ Below w.heap.size w w' := by
  have h := impl_ComposeViews (txt 4 q) (txt 4 r) (sz4 q) (sz4 r) w
  rwa [okTxt_txt 4 q hq, okTxt_txt 4 r hr, Bool.true_and, orNone_true, comp_v4 hq hr] at h
theorem s_Comp {q r : Nat → Int} (hq : Cond q) (hr : Cond r) (w : World) : Calls Try.prog 38 #[.string (txt 4 q), .string (txt 4 r)] w fun e w' => e = .returned (.tuple #[.string (txt 4 (comp q r)), .bool true]) ∧ w = w' := by
  have h := spec_ComposeViews (txt 4 q) (txt 4 r) w (sz4 q) (sz4 r)
  rwa [okTxt_txt 4 q hq, okTxt_txt 4 r hr, Bool.true_and, orNone_true, comp_v4 hq hr] at h
theorem hexlit : hexes = ⟨#[48, 49, 50, 51, 52, 53, 54, 55, 56, 57, 97, 98, 99, 100, 101, 102]⟩ := rfl

theorem in_Undo (a : Option Addr) (la ca : Nat) (za : List Int) (w : World) (h0 : IsRow .u8 w a la ca za) (hs : la ≤ 1048576) :
    Calls Try.prog 3 #[.slice a la ca] w fun e w' => e = .returned (.bool true) ∧ Below w.heap.size w w' := by
  go_enter Try.func3, Try.ntmps3
  go_wp2_with fail
  refine (DrawUndoOf_at a la ca za w h0).mono ?_
  rintro e w1 ⟨⟨s, hs1, rfl⟩, hb⟩
  clear h0
  cases hok : okTr s
  · have HK := Lib.hid hok; clear hok
    go_wp2_with fail
    refine (impl_UndoOf s (tr_size hs1) _).mono ?_
    rintro e wn1 ⟨rfl, hbn⟩
    replace hb := below_step hb hbn
    clear hbn
    rw [HK.out]
    go_wp2_with fail
    refine (spec_UndoOf s _ (tr_size hs1)).mono ?_
    rintro e w' ⟨rfl, rfl⟩
    rw [HK.out]
    go_wp2_with fail
    go_ret
    exact ⟨rfl, hb⟩
  · obtain ⟨t, HT, rfl⟩ := tr_of hok
    clear hok hs1
    have MX := Mon.most HT.ok skipT_ok
    have E1 := Lib.hid (undo_ref HT)
    have E2 := Lib.hid (undo_ref2 HT)
    have href := m_Ref (MX.then HT) Mon.skip
    rw [skip_txt] at href
    cases hr : isRelT t
    · have HR := Lib.hid hr; clear hr
      go_wp2_with fail
      refine (m_Undo HT _).mono ?_
      rintro e wn3 ⟨rfl, hbn⟩
      replace hb := below_step hb hbn
      clear hbn
      go_wp2_with fail
      refine (s_Undo HT _).mono ?_
      rintro e w' ⟨rfl, rfl⟩
      go_wp2_with fail
      refine (m_AngelRel HT _).mono ?_
      rintro e wn5 ⟨rfl, hbn⟩
      replace hb := below_step hb hbn
      clear hbn
      rw [HR.out]
      go_wp2_with fail
      refine (m_dcThen MX HT _).mono ?_
      rintro e wn6 ⟨rfl, hbn⟩
      replace hb := below_step hb hbn
      clear hbn
      go_wp2_with fail
      refine (href _).mono ?_
      rintro e wn7 ⟨rfl, hbn⟩
      replace hb := below_step hb hbn
      clear hbn
      rw [E1.out]
      go_wp2_with fail
      refine (m_dcThen MX HT _).mono ?_
      rintro e wn8 ⟨rfl, hbn⟩
      replace hb := below_step hb hbn
      clear hbn
      go_wp2_with fail
      refine (m_dcThen (MX.then HT) MX _).mono ?_
      rintro e wn9 ⟨rfl, hbn⟩
      replace hb := below_step hb hbn
      clear hbn
      go_wp2_with fail
      refine (m_Ref ((MX.then HT).then MX) MX _).mono ?_
      rintro e wn10 ⟨rfl, hbn⟩
      replace hb := below_step hb hbn
      clear hbn
      rw [E2.out]
      go_wp2_with fail
      go_ret
      exact ⟨rfl, hb⟩
    · have HR := Lib.hid hr
      cases hf : isFn (relT t)
      · have HF := Lib.hid hf; clear hr hf
        go_wp2_with fail
        refine (m_Undo HT _).mono ?_
        rintro e wn11 ⟨rfl, hbn⟩
        replace hb := below_step hb hbn
        clear hbn
        go_wp2_with fail
        refine (s_Undo HT _).mono ?_
        rintro e w' ⟨rfl, rfl⟩
        go_wp2_with fail
        refine (m_AngelRel HT _).mono ?_
        rintro e wn13 ⟨rfl, hbn⟩
        replace hb := below_step hb hbn
        clear hbn
        rw [HR.out]
        rw [orNone_true]
        go_wp2_with fail
        refine (m_IsFn (relT_ok t) _).mono ?_
        rintro e wn14 ⟨rfl, hbn⟩
        replace hb := below_step hb hbn
        clear hbn
        rw [HF.out]
        go_wp2_with fail
        refine (m_dcThen MX HT _).mono ?_
        rintro e wn15 ⟨rfl, hbn⟩
        replace hb := below_step hb hbn
        clear hbn
        go_wp2_with fail
        refine (href _).mono ?_
        rintro e wn16 ⟨rfl, hbn⟩
        replace hb := below_step hb hbn
        clear hbn
        rw [E1.out]
        go_wp2_with fail
        refine (m_dcThen MX HT _).mono ?_
        rintro e wn17 ⟨rfl, hbn⟩
        replace hb := below_step hb hbn
        clear hbn
        go_wp2_with fail
        refine (m_dcThen (MX.then HT) MX _).mono ?_
        rintro e wn18 ⟨rfl, hbn⟩
        replace hb := below_step hb hbn
        clear hbn
        go_wp2_with fail
        refine (m_Ref ((MX.then HT).then MX) MX _).mono ?_
        rintro e wn19 ⟨rfl, hbn⟩
        replace hb := below_step hb hbn
        clear hbn
        rw [E2.out]
        go_wp2_with fail
        go_ret
        exact ⟨rfl, hb⟩
      · have HF := Lib.hid hf
        cases hg : isFn (turn (relT t))
        · have HG := Lib.hid hg; clear hr hf hg
          go_wp2_with fail
          refine (m_Undo HT _).mono ?_
          rintro e wn20 ⟨rfl, hbn⟩
          replace hb := below_step hb hbn
          clear hbn
          go_wp2_with fail
          refine (s_Undo HT _).mono ?_
          rintro e w' ⟨rfl, rfl⟩
          go_wp2_with fail
          refine (m_AngelRel HT _).mono ?_
          rintro e wn22 ⟨rfl, hbn⟩
          replace hb := below_step hb hbn
          clear hbn
          rw [HR.out]
          rw [orNone_true]
          go_wp2_with fail
          refine (m_IsFn (relT_ok t) _).mono ?_
          rintro e wn23 ⟨rfl, hbn⟩
          replace hb := below_step hb hbn
          clear hbn
          rw [HF.out]
          go_wp2_with fail
          refine (m_Turn (relT_ok t) _).mono ?_
          rintro e wn24 ⟨rfl, hbn⟩
          replace hb := below_step hb hbn
          clear hbn
          go_wp2_with fail
          refine (m_Demon (turn_ok _) _).mono ?_
          rintro e wn25 ⟨rfl, hbn⟩
          replace hb := below_step hb hbn
          clear hbn
          go_wp2_with fail
          refine (m_Angel (turn_ok _) _).mono ?_
          rintro e wn26 ⟨rfl, hbn⟩
          replace hb := below_step hb hbn
          clear hbn
          go_wp2_with fail
          refine (m_IsFn (turn_ok _) _).mono ?_
          rintro e wn27 ⟨rfl, hbn⟩
          replace hb := below_step hb hbn
          clear hbn
          rw [HG.out]
          go_wp2_with fail
          refine (m_dcThen MX HT _).mono ?_
          rintro e wn28 ⟨rfl, hbn⟩
          replace hb := below_step hb hbn
          clear hbn
          go_wp2_with fail
          refine (href _).mono ?_
          rintro e wn29 ⟨rfl, hbn⟩
          replace hb := below_step hb hbn
          clear hbn
          rw [E1.out]
          go_wp2_with fail
          refine (m_dcThen MX HT _).mono ?_
          rintro e wn30 ⟨rfl, hbn⟩
          replace hb := below_step hb hbn
          clear hbn
          go_wp2_with fail
          refine (m_dcThen (MX.then HT) MX _).mono ?_
          rintro e wn31 ⟨rfl, hbn⟩
          replace hb := below_step hb hbn
          clear hbn
          go_wp2_with fail
          refine (m_Ref ((MX.then HT).then MX) MX _).mono ?_
          rintro e wn32 ⟨rfl, hbn⟩
          replace hb := below_step hb hbn
          clear hbn
          rw [E2.out]
          go_wp2_with fail
          go_ret
          exact ⟨rfl, hb⟩
        · have HG := Lib.hid hg
          have e0 := rel_angel HT.ok hr
          have E3 : Hid (txt 16 (angelT (turn (relT t))) = txt 16 (mostT t skipT)) := (undo_most HT (relT_ok t) e0 hf).txt.symm
          have E4 : Hid (txt 16 (demonT (turn (relT t))) = txt 16 (mostT t skipT)) := ((undo_most HT (relT_ok t) e0 hf).trans (undo_demon hg)).txt.symm
          have E5 : Hid (txt 16 (thenT (mostT t skipT) t) = hexes) := by show _ = _; rw [(undo_then HT (relT_ok t) e0 hf hg).txt, skip_txt]
          have E6 : Hid (txt 16 (thenT t (mostT t skipT)) = hexes) := by show _ = _; rw [(undo_then2 HT (relT_ok t) e0 hf hg).txt, skip_txt]
          clear hr hf hg e0
          go_wp2_with fail
          refine (m_Undo HT _).mono ?_
          rintro e wn33 ⟨rfl, hbn⟩
          replace hb := below_step hb hbn
          clear hbn
          go_wp2_with fail
          refine (s_Undo HT _).mono ?_
          rintro e w' ⟨rfl, rfl⟩
          go_wp2_with fail
          refine (m_AngelRel HT _).mono ?_
          rintro e wn35 ⟨rfl, hbn⟩
          replace hb := below_step hb hbn
          clear hbn
          rw [HR.out]
          rw [orNone_true]
          go_wp2_with fail
          refine (m_IsFn (relT_ok t) _).mono ?_
          rintro e wn36 ⟨rfl, hbn⟩
          replace hb := below_step hb hbn
          clear hbn
          rw [HF.out]
          go_wp2_with fail
          refine (m_Turn (relT_ok t) _).mono ?_
          rintro e wn37 ⟨rfl, hbn⟩
          replace hb := below_step hb hbn
          clear hbn
          go_wp2_with fail
          refine (m_Demon (turn_ok _) _).mono ?_
          rintro e wn38 ⟨rfl, hbn⟩
          replace hb := below_step hb hbn
          clear hbn
          rw [E4.out]
          go_wp2_with fail
          refine (m_Angel (turn_ok _) _).mono ?_
          rintro e wn39 ⟨rfl, hbn⟩
          replace hb := below_step hb hbn
          clear hbn
          rw [E3.out]
          go_wp2_with fail
          refine (m_IsFn (turn_ok _) _).mono ?_
          rintro e wn40 ⟨rfl, hbn⟩
          replace hb := below_step hb hbn
          clear hbn
          rw [HG.out]
          go_wp2_with fail
          refine (m_dcThen MX HT _).mono ?_
          rintro e wn41 ⟨rfl, hbn⟩
          replace hb := below_step hb hbn
          clear hbn
          rw [E5.out]
          rw [hexlit]
          go_wp2_with fail
          refine (m_dcThen HT MX _).mono ?_
          rintro e wn42 ⟨rfl, hbn⟩
          replace hb := below_step hb hbn
          clear hbn
          rw [E6.out]
          rw [hexlit]
          go_wp2_with fail
          refine (m_dcThen MX HT _).mono ?_
          rintro e wn43 ⟨rfl, hbn⟩
          replace hb := below_step hb hbn
          clear hbn
          go_wp2_with fail
          refine (href _).mono ?_
          rintro e wn44 ⟨rfl, hbn⟩
          replace hb := below_step hb hbn
          clear hbn
          rw [E1.out]
          go_wp2_with fail
          refine (m_dcThen MX HT _).mono ?_
          rintro e wn45 ⟨rfl, hbn⟩
          replace hb := below_step hb hbn
          clear hbn
          go_wp2_with fail
          refine (m_dcThen (MX.then HT) MX _).mono ?_
          rintro e wn46 ⟨rfl, hbn⟩
          replace hb := below_step hb hbn
          clear hbn
          go_wp2_with fail
          refine (m_Ref ((MX.then HT).then MX) MX _).mono ?_
          rintro e wn47 ⟨rfl, hbn⟩
          replace hb := below_step hb hbn
          clear hbn
          rw [E2.out]
          go_wp2_with fail
          go_ret
          exact ⟨rfl, hb⟩
theorem walk_Undo (a : Option Addr) (la ca : Nat) (za : List Int) (w : World) (h0 : IsRow .u8 w a la ca za) :
    Calls Try.prog 3 #[.slice a la ca] w fun e w' => e = .returned (.bool true) ∧ Below w.heap.size w w' := by
  by_cases hs : la ≤ 1048576
  · exact in_Undo a la ca za w h0 hs
  · go_enter Try.func3, Try.ntmps3
    go_wp2_with fail
    go_ret
    exact ⟨rfl, Below.refl _ _⟩

theorem in_Forward (a : Option Addr) (la ca : Nat) (za : List Int) (w : World) (h0 : IsRow .u8 w a la ca za) (hs : la ≤ 1048576) :
    Calls Try.prog 6 #[.slice a la ca] w fun e w' => e = .returned (.bool true) ∧ Below w.heap.size w w' := by
  go_enter Try.func6, Try.ntmps6
  go_wp2_with fail
  refine (DrawSimulatesForward_at a la ca za w h0).mono ?_
  rintro e w1 ⟨⟨s, t, u, hs1, ht1, hu1, rfl⟩, hb⟩
  clear h0
  cases hok : okTxt 4 s && (okTr t && okTr u)
  · have hn : (okTxt 4 s && (okTr t && okTr u) && fwdT (val s) (val t) (val u)) = false := by rw [hok]; rfl
    have HN := Lib.hid hn; clear hn
    go_wp2_with fail
    refine (impl_SimulatesForward s t u (tr_size hs1) (tr_size ht1) (tr_size hu1) _).mono ?_
    rintro e wn48 ⟨rfl, hbn⟩
    replace hb := below_step hb hbn
    clear hbn
    rw [HN.out]
    go_wp2_with fail
    refine (spec_SimulatesForward s t u _ (tr_size hs1) (tr_size ht1) (tr_size hu1)).mono ?_
    rintro e w' ⟨rfl, rfl⟩
    rw [HN.out]
    cases h1 : okTxt 4 s
    · have H1 := Lib.hid h1; clear h1 hok
      go_wp2_with fail
      refine (impl_RelValid s (tr_size hs1) _).mono ?_
      rintro e wn50 ⟨rfl, hbn⟩
      replace hb := below_step hb hbn
      clear hbn
      rw [H1.out]
      go_wp2_with fail
      refine (spec_SimulatesForward s t u _ (tr_size hs1) (tr_size ht1) (tr_size hu1)).mono ?_
      rintro e w' ⟨rfl, rfl⟩
      rw [HN.out]
      go_wp2_with fail
      go_ret
      exact ⟨rfl, hb⟩
    · cases h2 : okTr t
      · have H1 := Lib.hid h1; clear h1 hok
        have H2 := Lib.hid h2; clear h2
        go_wp2_with fail
        refine (impl_RelValid s (tr_size hs1) _).mono ?_
        rintro e wn52 ⟨rfl, hbn⟩
        replace hb := below_step hb hbn
        clear hbn
        rw [H1.out]
        go_wp2_with fail
        refine (impl_TransValid t (tr_size ht1) _).mono ?_
        rintro e wn53 ⟨rfl, hbn⟩
        replace hb := below_step hb hbn
        clear hbn
        rw [H2.out]
        go_wp2_with fail
        refine (spec_SimulatesForward s t u _ (tr_size hs1) (tr_size ht1) (tr_size hu1)).mono ?_
        rintro e w' ⟨rfl, rfl⟩
        rw [HN.out]
        go_wp2_with fail
        go_ret
        exact ⟨rfl, hb⟩
      · have H3 : Hid (okTr u = false) := by show okTr u = false; simpa [h1, h2] using hok
        have H1 := Lib.hid h1; clear h1 hok
        have H2 := Lib.hid h2; clear h2
        go_wp2_with fail
        refine (impl_RelValid s (tr_size hs1) _).mono ?_
        rintro e wn55 ⟨rfl, hbn⟩
        replace hb := below_step hb hbn
        clear hbn
        rw [H1.out]
        go_wp2_with fail
        refine (impl_TransValid t (tr_size ht1) _).mono ?_
        rintro e wn56 ⟨rfl, hbn⟩
        replace hb := below_step hb hbn
        clear hbn
        rw [H2.out]
        go_wp2_with fail
        refine (impl_TransValid u (tr_size hu1) _).mono ?_
        rintro e wn57 ⟨rfl, hbn⟩
        replace hb := below_step hb hbn
        clear hbn
        rw [H3.out]
        go_wp2_with fail
        refine (spec_SimulatesForward s t u _ (tr_size hs1) (tr_size ht1) (tr_size hu1)).mono ?_
        rintro e w' ⟨rfl, rfl⟩
        rw [HN.out]
        go_wp2_with fail
        go_ret
        exact ⟨rfl, hb⟩
  · have hh : okTxt 4 s = true ∧ okTr t = true ∧ okTr u = true := by simpa using hok
    obtain ⟨r, HR, rfl⟩ := rel_of hh.1
    obtain ⟨p, HT, rfl⟩ := tr_of hh.2.1
    obtain ⟨q, HU, rfl⟩ := tr_of hh.2.2
    clear hh hok hs1 ht1 hu1
    have ML := Mon.conc HR HT
    have MA := Mon.angel HR
    have MD := Mon.demon (turn_ok r)
    have E0 : Hid (fwdT r p (concT r p) = true) := fwd_least HR HT
    have E1 : Hid (refT (concT r p) q = fwdT r p q) := (law_fwd HR HT HU).symm
    have E2 : Hid (refT p (thenT (demonT (turn r)) (thenT q (angelT r))) = fwdT r p q) := (law_fwd' HR HT HU).symm
    go_wp2_with fail
    refine (m_Fwd HR HT HU _).mono ?_
    rintro e wn59 ⟨rfl, hbn⟩
    replace hb := below_step hb hbn
    clear hbn
    go_wp2_with fail
    refine (s_Fwd HR HT HU _).mono ?_
    rintro e w' ⟨rfl, rfl⟩
    go_wp2_with fail
    refine (m_RelValid HR _).mono ?_
    rintro e wn61 ⟨rfl, hbn⟩
    replace hb := below_step hb hbn
    clear hbn
    go_wp2_with fail
    refine (m_Valid HT _).mono ?_
    rintro e wn62 ⟨rfl, hbn⟩
    replace hb := below_step hb hbn
    clear hbn
    go_wp2_with fail
    refine (m_Valid HU _).mono ?_
    rintro e wn63 ⟨rfl, hbn⟩
    replace hb := below_step hb hbn
    clear hbn
    go_wp2_with fail
    refine (m_CLeast HR HT _).mono ?_
    rintro e wn64 ⟨rfl, hbn⟩
    replace hb := below_step hb hbn
    clear hbn
    go_wp2_with fail
    refine (s_CLeast HR HT _).mono ?_
    rintro e w' ⟨rfl, rfl⟩
    go_wp2_with fail
    refine (m_Angel HR _).mono ?_
    rintro e wn66 ⟨rfl, hbn⟩
    replace hb := below_step hb hbn
    clear hbn
    go_wp2_with fail
    refine (m_Turn HR _).mono ?_
    rintro e wn67 ⟨rfl, hbn⟩
    replace hb := below_step hb hbn
    clear hbn
    go_wp2_with fail
    refine (m_Demon (turn_ok r) _).mono ?_
    rintro e wn68 ⟨rfl, hbn⟩
    replace hb := below_step hb hbn
    clear hbn
    go_wp2_with fail
    refine (m_Fwd HR HT ML _).mono ?_
    rintro e wn69 ⟨rfl, hbn⟩
    replace hb := below_step hb hbn
    clear hbn
    rw [E0.out]
    go_wp2_with fail
    refine (m_Ref ML HU _).mono ?_
    rintro e wn70 ⟨rfl, hbn⟩
    replace hb := below_step hb hbn
    clear hbn
    rw [E1.out]
    go_wp2_with fail
    refine (m_dcThen HU MA _).mono ?_
    rintro e wn71 ⟨rfl, hbn⟩
    replace hb := below_step hb hbn
    clear hbn
    go_wp2_with fail
    refine (m_dcThen MD (HU.then MA) _).mono ?_
    rintro e wn72 ⟨rfl, hbn⟩
    replace hb := below_step hb hbn
    clear hbn
    go_wp2_with fail
    refine (m_Ref HT (MD.then (HU.then MA)) _).mono ?_
    rintro e wn73 ⟨rfl, hbn⟩
    replace hb := below_step hb hbn
    clear hbn
    rw [E2.out]
    go_wp2_with fail
    go_ret
    exact ⟨rfl, hb⟩
theorem walk_Forward (a : Option Addr) (la ca : Nat) (za : List Int) (w : World) (h0 : IsRow .u8 w a la ca za) :
    Calls Try.prog 6 #[.slice a la ca] w fun e w' => e = .returned (.bool true) ∧ Below w.heap.size w w' := by
  by_cases hs : la ≤ 1048576
  · exact in_Forward a la ca za w h0 hs
  · go_enter Try.func6, Try.ntmps6
    go_wp2_with fail
    go_ret
    exact ⟨rfl, Below.refl _ _⟩

theorem in_Backward (a : Option Addr) (la ca : Nat) (za : List Int) (w : World) (h0 : IsRow .u8 w a la ca za) (hs : la ≤ 1048576) :
    Calls Try.prog 4 #[.slice a la ca] w fun e w' => e = .returned (.bool true) ∧ Below w.heap.size w w' := by
  go_enter Try.func4, Try.ntmps4
  go_wp2_with fail
  refine (DrawSimulatesBackward_at a la ca za w h0).mono ?_
  rintro e w1 ⟨⟨s, t, u, hs1, ht1, hu1, rfl⟩, hb⟩
  clear h0
  cases hok : okTxt 4 s && (okTr t && okTr u)
  · have hn : (okTxt 4 s && (okTr t && okTr u) && bwdT (val s) (val t) (val u)) = false := by rw [hok]; rfl
    have HN := Lib.hid hn; clear hn
    go_wp2_with fail
    refine (impl_SimulatesBackward s t u (tr_size hs1) (tr_size ht1) (tr_size hu1) _).mono ?_
    rintro e wn74 ⟨rfl, hbn⟩
    replace hb := below_step hb hbn
    clear hbn
    rw [HN.out]
    go_wp2_with fail
    refine (spec_SimulatesBackward s t u _ (tr_size hs1) (tr_size ht1) (tr_size hu1)).mono ?_
    rintro e w' ⟨rfl, rfl⟩
    rw [HN.out]
    cases h1 : okTxt 4 s
    · have H1 := Lib.hid h1; clear h1 hok
      go_wp2_with fail
      refine (impl_RelValid s (tr_size hs1) _).mono ?_
      rintro e wn76 ⟨rfl, hbn⟩
      replace hb := below_step hb hbn
      clear hbn
      rw [H1.out]
      go_wp2_with fail
      refine (spec_SimulatesBackward s t u _ (tr_size hs1) (tr_size ht1) (tr_size hu1)).mono ?_
      rintro e w' ⟨rfl, rfl⟩
      rw [HN.out]
      go_wp2_with fail
      go_ret
      exact ⟨rfl, hb⟩
    · cases h2 : okTr t
      · have H1 := Lib.hid h1; clear h1 hok
        have H2 := Lib.hid h2; clear h2
        go_wp2_with fail
        refine (impl_RelValid s (tr_size hs1) _).mono ?_
        rintro e wn78 ⟨rfl, hbn⟩
        replace hb := below_step hb hbn
        clear hbn
        rw [H1.out]
        go_wp2_with fail
        refine (impl_TransValid t (tr_size ht1) _).mono ?_
        rintro e wn79 ⟨rfl, hbn⟩
        replace hb := below_step hb hbn
        clear hbn
        rw [H2.out]
        go_wp2_with fail
        refine (spec_SimulatesBackward s t u _ (tr_size hs1) (tr_size ht1) (tr_size hu1)).mono ?_
        rintro e w' ⟨rfl, rfl⟩
        rw [HN.out]
        go_wp2_with fail
        go_ret
        exact ⟨rfl, hb⟩
      · have H3 : Hid (okTr u = false) := by show okTr u = false; simpa [h1, h2] using hok
        have H1 := Lib.hid h1; clear h1 hok
        have H2 := Lib.hid h2; clear h2
        go_wp2_with fail
        refine (impl_RelValid s (tr_size hs1) _).mono ?_
        rintro e wn81 ⟨rfl, hbn⟩
        replace hb := below_step hb hbn
        clear hbn
        rw [H1.out]
        go_wp2_with fail
        refine (impl_TransValid t (tr_size ht1) _).mono ?_
        rintro e wn82 ⟨rfl, hbn⟩
        replace hb := below_step hb hbn
        clear hbn
        rw [H2.out]
        go_wp2_with fail
        refine (impl_TransValid u (tr_size hu1) _).mono ?_
        rintro e wn83 ⟨rfl, hbn⟩
        replace hb := below_step hb hbn
        clear hbn
        rw [H3.out]
        go_wp2_with fail
        refine (spec_SimulatesBackward s t u _ (tr_size hs1) (tr_size ht1) (tr_size hu1)).mono ?_
        rintro e w' ⟨rfl, rfl⟩
        rw [HN.out]
        go_wp2_with fail
        go_ret
        exact ⟨rfl, hb⟩
  · have hh : okTxt 4 s = true ∧ okTr t = true ∧ okTr u = true := by simpa using hok
    obtain ⟨r, HR, rfl⟩ := rel_of hh.1
    obtain ⟨p, HT, rfl⟩ := tr_of hh.2.1
    obtain ⟨q, HU, rfl⟩ := tr_of hh.2.2
    clear hh hok hs1 ht1 hu1
    have ML := Mon.abs (r := r) HU
    have E0 : Hid (bwdT r (absT r q) q = true) := bwd_most HU
    have E1 : Hid (refT p (absT r q) = bwdT r p q) := (law_bwd HT HU).symm
    go_wp2_with fail
    refine (m_Bwd HR HT HU _).mono ?_
    rintro e wn85 ⟨rfl, hbn⟩
    replace hb := below_step hb hbn
    clear hbn
    go_wp2_with fail
    refine (s_Bwd HR HT HU _).mono ?_
    rintro e w' ⟨rfl, rfl⟩
    go_wp2_with fail
    refine (m_RelValid HR _).mono ?_
    rintro e wn87 ⟨rfl, hbn⟩
    replace hb := below_step hb hbn
    clear hbn
    go_wp2_with fail
    refine (m_Valid HT _).mono ?_
    rintro e wn88 ⟨rfl, hbn⟩
    replace hb := below_step hb hbn
    clear hbn
    go_wp2_with fail
    refine (m_Valid HU _).mono ?_
    rintro e wn89 ⟨rfl, hbn⟩
    replace hb := below_step hb hbn
    clear hbn
    go_wp2_with fail
    refine (m_AMost HR HU _).mono ?_
    rintro e wn90 ⟨rfl, hbn⟩
    replace hb := below_step hb hbn
    clear hbn
    go_wp2_with fail
    refine (s_AMost HR HU _).mono ?_
    rintro e w' ⟨rfl, rfl⟩
    go_wp2_with fail
    refine (m_Bwd HR ML HU _).mono ?_
    rintro e wn92 ⟨rfl, hbn⟩
    replace hb := below_step hb hbn
    clear hbn
    rw [E0.out]
    go_wp2_with fail
    refine (m_Ref HT ML _).mono ?_
    rintro e wn93 ⟨rfl, hbn⟩
    replace hb := below_step hb hbn
    clear hbn
    rw [E1.out]
    go_wp2_with fail
    go_ret
    exact ⟨rfl, hb⟩
theorem walk_Backward (a : Option Addr) (la ca : Nat) (za : List Int) (w : World) (h0 : IsRow .u8 w a la ca za) :
    Calls Try.prog 4 #[.slice a la ca] w fun e w' => e = .returned (.bool true) ∧ Below w.heap.size w w' := by
  by_cases hs : la ≤ 1048576
  · exact in_Backward a la ca za w h0 hs
  · go_enter Try.func4, Try.ntmps4
    go_wp2_with fail
    go_ret
    exact ⟨rfl, Below.refl _ _⟩

theorem in_DataSequence (a : Option Addr) (la ca : Nat) (za : List Int) (b : Option Addr) (lb cb : Nat) (zb : List Int) (w : World) (h0 : IsRow .u8 w a la ca za) (h1 : IsRow .u8 w b lb cb zb) (hs : la ≤ 1048576) (hq : lb ≤ 1048576) :
    Calls Try.prog 5 #[.slice a la ca, .slice b lb cb] w fun e w' => e = .returned (.bool true) ∧ Below w.heap.size w w' := by
  go_enter Try.func5, Try.ntmps5
  go_wp2_with fail
  refine (DrawSimulatesForward_at a la ca za w h0).mono ?_
  rintro e w1 ⟨⟨s, t, u, hs1, ht1, hu1, rfl⟩, hb⟩
  replace h1 := h1.keep hb
  clear h0
  cases hok : okTxt 4 s && (okTr t && okTr u)
  · have hn : (okTxt 4 s && (okTr t && okTr u) && fwdT (val s) (val t) (val u)) = false := by rw [hok]; rfl
    have HN := Lib.hid hn; clear hn hok
    go_wp2_with fail
    refine (impl_SimulatesForward s t u (tr_size hs1) (tr_size ht1) (tr_size hu1) _).mono ?_
    rintro e w2 ⟨rfl, hb2⟩
    rw [HN.out]
    replace h1 := h1.keep hb2
    replace hb := below_step hb hb2
    clear hb2
    go_wp2_with fail
    refine (DrawSimulatesForward_at b lb cb zb w2 h1).mono ?_
    rintro e w3 ⟨⟨s2, v, u2, hs2, hv2, hu2, rfl⟩, hb3⟩
    replace hb := below_step hb hb3
    clear hb3 h1
    go_wp2_with fail
    refine (impl_ConcreteLeast s v (tr_size hs1) (tr_size hv2) _).mono ?_
    rintro e wn94 ⟨rfl, hbn⟩
    replace hb := below_step hb hbn
    clear hbn
    go_wp2_with fail
    refine (spec_SimulatesForward s t u _ (tr_size hs1) (tr_size ht1) (tr_size hu1)).mono ?_
    rintro e w' ⟨rfl, rfl⟩
    rw [HN.out]
    go_wp2_with fail
    refine (spec_SimulatesForward s t u _ (tr_size hs1) (tr_size ht1) (tr_size hu1)).mono ?_
    rintro e w' ⟨rfl, rfl⟩
    rw [HN.out]
    go_wp2_with fail
    go_ret
    exact ⟨rfl, hb⟩
  · have hh : okTxt 4 s = true ∧ okTr t = true ∧ okTr u = true := by simpa using hok
    obtain ⟨r, HR, rfl⟩ := rel_of hh.1
    obtain ⟨p, HT, rfl⟩ := tr_of hh.2.1
    obtain ⟨q, HU, rfl⟩ := tr_of hh.2.2
    clear hh hok hs1 ht1 hu1
    cases hf : fwdT r p q
    · have HF := Lib.hid hf; clear hf
      go_wp2_with fail
      refine (m_Fwd HR HT HU _).mono ?_
      rintro e w2 ⟨rfl, hb2⟩
      rw [HF.out]
      replace h1 := h1.keep hb2
      replace hb := below_step hb hb2
      clear hb2
      go_wp2_with fail
      refine (DrawSimulatesForward_at b lb cb zb w2 h1).mono ?_
      rintro e w3 ⟨⟨s2, v, u2, hs2, hv2, hu2, rfl⟩, hb3⟩
      replace hb := below_step hb hb3
      clear hb3 h1
      go_wp2_with fail
      refine (impl_ConcreteLeast (txt 4 r) v (sz4 r) (tr_size hv2) _).mono ?_
      rintro e wn97 ⟨rfl, hbn⟩
      replace hb := below_step hb hbn
      clear hbn
      go_wp2_with fail
      refine (s_Fwd HR HT HU _).mono ?_
      rintro e w' ⟨rfl, rfl⟩
      rw [HF.out]
      go_wp2_with fail
      refine (s_Fwd HR HT HU _).mono ?_
      rintro e w' ⟨rfl, rfl⟩
      rw [HF.out]
      go_wp2_with fail
      go_ret
      exact ⟨rfl, hb⟩
    · have HF := Lib.hid hf
      go_wp2_with fail
      refine (m_Fwd HR HT HU _).mono ?_
      rintro e w2 ⟨rfl, hb2⟩
      rw [HF.out]
      replace h1 := h1.keep hb2
      replace hb := below_step hb hb2
      clear hb2
      go_wp2_with fail
      refine (DrawSimulatesForward_at b lb cb zb w2 h1).mono ?_
      rintro e w3 ⟨⟨s2, v, u2, hs2, hv2, hu2, rfl⟩, hb3⟩
      replace hb := below_step hb hb3
      clear hb3 h1 hs2 hu2
      cases hv : okTr v
      · have HV : Hid ((okTxt 4 (txt 4 r) && okTr v) = false) := by show _ = _; rw [hv, Bool.and_false]
        clear hv hf
        go_wp2_with fail
        refine (impl_ConcreteLeast (txt 4 r) v (sz4 r) (tr_size hv2) _).mono ?_
        rintro e wn100 ⟨rfl, hbn⟩
        replace hb := below_step hb hbn
        clear hbn
        rw [HV.out]
        go_wp2_with fail
        refine (s_Fwd HR HT HU _).mono ?_
        rintro e w' ⟨rfl, rfl⟩
        rw [HF.out]
        go_wp2_with fail
        refine (s_Fwd HR HT HU _).mono ?_
        rintro e w' ⟨rfl, rfl⟩
        rw [HF.out]
        go_wp2_with fail
        go_ret
        exact ⟨rfl, hb⟩
      · obtain ⟨x, HV, rfl⟩ := tr_of hv
        clear hv hv2
        have HW := Mon.conc HR HV
        have hw : fwdT r x (concT r x) = true := fwd_least HR HV
        have E1 := Lib.hid (fwd_then HR HT HU HV HW hf hw)
        have E2 := Lib.hid (fwd_meet HR HT HU HV HW hf hw)
        have E3 := Lib.hid (fwd_join HR HT HU HV HW hf hw)
        have E4 := Lib.hid (fwd_star HR HT HU hf)
        have E5 := Lib.hid (fwd_omega HR HT HU hf)
        clear hf hw
        go_wp2_with fail
        refine (m_CLeast HR HV _).mono ?_
        rintro e wn103 ⟨rfl, hbn⟩
        replace hb := below_step hb hbn
        clear hbn
        go_wp2_with fail
        refine (s_Fwd HR HT HU _).mono ?_
        rintro e w' ⟨rfl, rfl⟩
        rw [HF.out]
        go_wp2_with fail
        refine (m_dcThen HT HV _).mono ?_
        rintro e wn105 ⟨rfl, hbn⟩
        replace hb := below_step hb hbn
        clear hbn
        go_wp2_with fail
        refine (m_dcThen HU HW _).mono ?_
        rintro e wn106 ⟨rfl, hbn⟩
        replace hb := below_step hb hbn
        clear hbn
        go_wp2_with fail
        refine (m_Fwd HR (HT.then HV) (HU.then HW) _).mono ?_
        rintro e wn107 ⟨rfl, hbn⟩
        replace hb := below_step hb hbn
        clear hbn
        rw [E1.out]
        go_wp2_with fail
        refine (m_dcMeet HT HV _).mono ?_
        rintro e wn108 ⟨rfl, hbn⟩
        replace hb := below_step hb hbn
        clear hbn
        go_wp2_with fail
        refine (m_dcMeet HU HW _).mono ?_
        rintro e wn109 ⟨rfl, hbn⟩
        replace hb := below_step hb hbn
        clear hbn
        go_wp2_with fail
        refine (m_Fwd HR (HT.meet HV) (HU.meet HW) _).mono ?_
        rintro e wn110 ⟨rfl, hbn⟩
        replace hb := below_step hb hbn
        clear hbn
        rw [E2.out]
        go_wp2_with fail
        refine (m_dcJoin HT HV _).mono ?_
        rintro e wn111 ⟨rfl, hbn⟩
        replace hb := below_step hb hbn
        clear hbn
        go_wp2_with fail
        refine (m_dcJoin HU HW _).mono ?_
        rintro e wn112 ⟨rfl, hbn⟩
        replace hb := below_step hb hbn
        clear hbn
        go_wp2_with fail
        refine (m_Fwd HR (HT.join HV) (HU.join HW) _).mono ?_
        rintro e wn113 ⟨rfl, hbn⟩
        replace hb := below_step hb hbn
        clear hbn
        rw [E3.out]
        go_wp2_with fail
        refine (m_Star HT _).mono ?_
        rintro e wn114 ⟨rfl, hbn⟩
        replace hb := below_step hb hbn
        clear hbn
        go_wp2_with fail
        refine (m_Star HU _).mono ?_
        rintro e wn115 ⟨rfl, hbn⟩
        replace hb := below_step hb hbn
        clear hbn
        go_wp2_with fail
        refine (m_Omega HT _).mono ?_
        rintro e wn116 ⟨rfl, hbn⟩
        replace hb := below_step hb hbn
        clear hbn
        go_wp2_with fail
        refine (m_Omega HU _).mono ?_
        rintro e wn117 ⟨rfl, hbn⟩
        replace hb := below_step hb hbn
        clear hbn
        go_wp2_with fail
        refine (m_Fwd HR HT.star HU.star _).mono ?_
        rintro e wn118 ⟨rfl, hbn⟩
        replace hb := below_step hb hbn
        clear hbn
        rw [E4.out]
        go_wp2_with fail
        refine (m_Fwd HR HT.omega HU.omega _).mono ?_
        rintro e wn119 ⟨rfl, hbn⟩
        replace hb := below_step hb hbn
        clear hbn
        rw [E5.out]
        go_wp2_with fail
        go_ret
        exact ⟨rfl, hb⟩
theorem walk_DataSequence (a : Option Addr) (la ca : Nat) (za : List Int) (b : Option Addr) (lb cb : Nat) (zb : List Int) (w : World) (h0 : IsRow .u8 w a la ca za) (h1 : IsRow .u8 w b lb cb zb) :
    Calls Try.prog 5 #[.slice a la ca, .slice b lb cb] w fun e w' => e = .returned (.bool true) ∧ Below w.heap.size w w' := by
  by_cases hs : la ≤ 1048576
  · by_cases hq : lb ≤ 1048576
    · exact in_DataSequence a la ca za b lb cb zb w h0 h1 hs hq
    · go_enter Try.func5, Try.ntmps5
      go_wp2_with fail
      go_ret
      exact ⟨rfl, Below.refl _ _⟩
  · go_enter Try.func5, Try.ntmps5
    go_wp2_with fail
    go_ret
    exact ⟨rfl, Below.refl _ _⟩

theorem in_DataBackward (a : Option Addr) (la ca : Nat) (za : List Int) (b : Option Addr) (lb cb : Nat) (zb : List Int) (w : World) (h0 : IsRow .u8 w a la ca za) (h1 : IsRow .u8 w b lb cb zb) (hs : la ≤ 1048576) (hq : lb ≤ 1048576) :
    Calls Try.prog 7 #[.slice a la ca, .slice b lb cb] w fun e w' => e = .returned (.bool true) ∧ Below w.heap.size w w' := by
  go_enter Try.func7, Try.ntmps7
  go_wp2_with fail
  refine (DrawSimulatesBackward_at a la ca za w h0).mono ?_
  rintro e w1 ⟨⟨s, t, u, hs1, ht1, hu1, rfl⟩, hb⟩
  replace h1 := h1.keep hb
  clear h0
  cases hok : okTxt 4 s && (okTr t && okTr u)
  · have hn : (okTxt 4 s && (okTr t && okTr u) && bwdT (val s) (val t) (val u)) = false := by rw [hok]; rfl
    have HN := Lib.hid hn; clear hn hok
    go_wp2_with fail
    refine (impl_SimulatesBackward s t u (tr_size hs1) (tr_size ht1) (tr_size hu1) _).mono ?_
    rintro e w2 ⟨rfl, hb2⟩
    rw [HN.out]
    replace h1 := h1.keep hb2
    replace hb := below_step hb hb2
    clear hb2
    go_wp2_with fail
    refine (DrawSimulatesBackward_at b lb cb zb w2 h1).mono ?_
    rintro e w3 ⟨⟨s2, v, u2, hs2, hv2, hu2, rfl⟩, hb3⟩
    replace hb := below_step hb hb3
    clear hb3 h1
    go_wp2_with fail
    refine (impl_AbstractMost s u2 (tr_size hs1) (tr_size hu2) _).mono ?_
    rintro e wn120 ⟨rfl, hbn⟩
    replace hb := below_step hb hbn
    clear hbn
    go_wp2_with fail
    refine (spec_SimulatesBackward s t u _ (tr_size hs1) (tr_size ht1) (tr_size hu1)).mono ?_
    rintro e w' ⟨rfl, rfl⟩
    rw [HN.out]
    go_wp2_with fail
    refine (spec_SimulatesBackward s t u _ (tr_size hs1) (tr_size ht1) (tr_size hu1)).mono ?_
    rintro e w' ⟨rfl, rfl⟩
    rw [HN.out]
    go_wp2_with fail
    go_ret
    exact ⟨rfl, hb⟩
  · have hh : okTxt 4 s = true ∧ okTr t = true ∧ okTr u = true := by simpa using hok
    obtain ⟨r, HR, rfl⟩ := rel_of hh.1
    obtain ⟨p, HT, rfl⟩ := tr_of hh.2.1
    obtain ⟨q, HU, rfl⟩ := tr_of hh.2.2
    clear hh hok hs1 ht1 hu1
    cases hf : bwdT r p q
    · have HF := Lib.hid hf; clear hf
      go_wp2_with fail
      refine (m_Bwd HR HT HU _).mono ?_
      rintro e w2 ⟨rfl, hb2⟩
      rw [HF.out]
      replace h1 := h1.keep hb2
      replace hb := below_step hb hb2
      clear hb2
      go_wp2_with fail
      refine (DrawSimulatesBackward_at b lb cb zb w2 h1).mono ?_
      rintro e w3 ⟨⟨s2, v, u2, hs2, hv2, hu2, rfl⟩, hb3⟩
      replace hb := below_step hb hb3
      clear hb3 h1
      go_wp2_with fail
      refine (impl_AbstractMost (txt 4 r) u2 (sz4 r) (tr_size hu2) _).mono ?_
      rintro e wn123 ⟨rfl, hbn⟩
      replace hb := below_step hb hbn
      clear hbn
      go_wp2_with fail
      refine (s_Bwd HR HT HU _).mono ?_
      rintro e w' ⟨rfl, rfl⟩
      rw [HF.out]
      go_wp2_with fail
      refine (s_Bwd HR HT HU _).mono ?_
      rintro e w' ⟨rfl, rfl⟩
      rw [HF.out]
      go_wp2_with fail
      go_ret
      exact ⟨rfl, hb⟩
    · have HF := Lib.hid hf
      go_wp2_with fail
      refine (m_Bwd HR HT HU _).mono ?_
      rintro e w2 ⟨rfl, hb2⟩
      rw [HF.out]
      replace h1 := h1.keep hb2
      replace hb := below_step hb hb2
      clear hb2
      go_wp2_with fail
      refine (DrawSimulatesBackward_at b lb cb zb w2 h1).mono ?_
      rintro e w3 ⟨⟨s2, u2, v, hs2, hu2, hv2, rfl⟩, hb3⟩
      replace hb := below_step hb hb3
      clear hb3 h1 hs2 hu2
      cases hv : okTr v
      · have HV : Hid ((okTxt 4 (txt 4 r) && okTr v) = false) := by show _ = _; rw [hv, Bool.and_false]
        clear hv hf
        go_wp2_with fail
        refine (impl_AbstractMost (txt 4 r) v (sz4 r) (tr_size hv2) _).mono ?_
        rintro e wn126 ⟨rfl, hbn⟩
        replace hb := below_step hb hbn
        clear hbn
        rw [HV.out]
        go_wp2_with fail
        refine (s_Bwd HR HT HU _).mono ?_
        rintro e w' ⟨rfl, rfl⟩
        rw [HF.out]
        go_wp2_with fail
        refine (s_Bwd HR HT HU _).mono ?_
        rintro e w' ⟨rfl, rfl⟩
        rw [HF.out]
        go_wp2_with fail
        go_ret
        exact ⟨rfl, hb⟩
      · obtain ⟨x, HW, rfl⟩ := tr_of hv
        clear hv hv2
        have HV := Mon.abs (r := r) HW
        have hw : bwdT r (absT r x) x = true := bwd_most HW
        have E1 := Lib.hid (bwd_then HT HU HV HW hf hw)
        have E2 := Lib.hid (bwd_meet HT HU HV HW hf hw)
        have E3 := Lib.hid (bwd_join HT HU HV HW hf hw)
        have E4 := Lib.hid (bwd_dual HT HU hf)
        clear hf hw
        go_wp2_with fail
        refine (m_AMost HR HW _).mono ?_
        rintro e wn129 ⟨rfl, hbn⟩
        replace hb := below_step hb hbn
        clear hbn
        go_wp2_with fail
        refine (s_Bwd HR HT HU _).mono ?_
        rintro e w' ⟨rfl, rfl⟩
        rw [HF.out]
        go_wp2_with fail
        refine (m_Turn HR _).mono ?_
        rintro e wn131 ⟨rfl, hbn⟩
        replace hb := below_step hb hbn
        clear hbn
        go_wp2_with fail
        refine (m_dcDual HU _).mono ?_
        rintro e wn132 ⟨rfl, hbn⟩
        replace hb := below_step hb hbn
        clear hbn
        go_wp2_with fail
        refine (m_dcDual HT _).mono ?_
        rintro e wn133 ⟨rfl, hbn⟩
        replace hb := below_step hb hbn
        clear hbn
        go_wp2_with fail
        refine (m_Fwd (turn_ok r) HU.dual HT.dual _).mono ?_
        rintro e wn134 ⟨rfl, hbn⟩
        replace hb := below_step hb hbn
        clear hbn
        rw [E4.out]
        go_wp2_with fail
        refine (m_dcThen HT HV _).mono ?_
        rintro e wn135 ⟨rfl, hbn⟩
        replace hb := below_step hb hbn
        clear hbn
        go_wp2_with fail
        refine (m_dcThen HU HW _).mono ?_
        rintro e wn136 ⟨rfl, hbn⟩
        replace hb := below_step hb hbn
        clear hbn
        go_wp2_with fail
        refine (m_Bwd HR (HT.then HV) (HU.then HW) _).mono ?_
        rintro e wn137 ⟨rfl, hbn⟩
        replace hb := below_step hb hbn
        clear hbn
        rw [E1.out]
        go_wp2_with fail
        refine (m_dcMeet HT HV _).mono ?_
        rintro e wn138 ⟨rfl, hbn⟩
        replace hb := below_step hb hbn
        clear hbn
        go_wp2_with fail
        refine (m_dcMeet HU HW _).mono ?_
        rintro e wn139 ⟨rfl, hbn⟩
        replace hb := below_step hb hbn
        clear hbn
        go_wp2_with fail
        refine (m_Bwd HR (HT.meet HV) (HU.meet HW) _).mono ?_
        rintro e wn140 ⟨rfl, hbn⟩
        replace hb := below_step hb hbn
        clear hbn
        rw [E2.out]
        go_wp2_with fail
        refine (m_dcJoin HT HV _).mono ?_
        rintro e wn141 ⟨rfl, hbn⟩
        replace hb := below_step hb hbn
        clear hbn
        go_wp2_with fail
        refine (m_dcJoin HU HW _).mono ?_
        rintro e wn142 ⟨rfl, hbn⟩
        replace hb := below_step hb hbn
        clear hbn
        go_wp2_with fail
        refine (m_Bwd HR (HT.join HV) (HU.join HW) _).mono ?_
        rintro e wn143 ⟨rfl, hbn⟩
        replace hb := below_step hb hbn
        clear hbn
        rw [E3.out]
        go_wp2_with fail
        go_ret
        exact ⟨rfl, hb⟩
theorem walk_DataBackward (a : Option Addr) (la ca : Nat) (za : List Int) (b : Option Addr) (lb cb : Nat) (zb : List Int) (w : World) (h0 : IsRow .u8 w a la ca za) (h1 : IsRow .u8 w b lb cb zb) :
    Calls Try.prog 7 #[.slice a la ca, .slice b lb cb] w fun e w' => e = .returned (.bool true) ∧ Below w.heap.size w w' := by
  by_cases hs : la ≤ 1048576
  · by_cases hq : lb ≤ 1048576
    · exact in_DataBackward a la ca za b lb cb zb w h0 h1 hs hq
    · go_enter Try.func7, Try.ntmps7
      go_wp2_with fail
      go_ret
      exact ⟨rfl, Below.refl _ _⟩
  · go_enter Try.func7, Try.ntmps7
    go_wp2_with fail
    go_ret
    exact ⟨rfl, Below.refl _ _⟩

theorem in_Views (a : Option Addr) (la ca : Nat) (za : List Int) (b : Option Addr) (lb cb : Nat) (zb : List Int) (w : World) (h0 : IsRow .u8 w a la ca za) (h1 : IsRow .u8 w b lb cb zb) (hs : la ≤ 1048576) (hq : lb ≤ 1048576) :
    Calls Try.prog 8 #[.slice a la ca, .slice b lb cb] w fun e w' => e = .returned (.bool true) ∧ Below w.heap.size w w' := by
  go_enter Try.func8, Try.ntmps8
  go_wp2_with fail
  refine (DrawComposeViews_at a la ca za w h0).mono ?_
  rintro e w1 ⟨⟨s, t, hs1, ht1, rfl⟩, hb⟩
  replace h1 := h1.keep hb
  clear h0
  cases hok : okTxt 4 s && okTxt 4 t
  · have HN := Lib.hid hok; clear hok
    go_wp2_with fail
    refine (impl_ComposeViews s t (tr_size hs1) (tr_size ht1) _).mono ?_
    rintro e wn144 ⟨rfl, hbn⟩
    replace hb := below_step hb hbn
    clear hbn
    rw [HN.out]
    go_wp2_with fail
    refine (spec_ComposeViews s t _ (tr_size hs1) (tr_size ht1)).mono ?_
    rintro e w' ⟨rfl, rfl⟩
    rw [HN.out]
    go_wp2_with fail
    go_ret
    exact ⟨rfl, hb⟩
  · have hh : okTxt 4 s = true ∧ okTxt 4 t = true := by simpa using hok
    obtain ⟨q, HQ, rfl⟩ := rel_of hh.1
    obtain ⟨r, HR, rfl⟩ := rel_of hh.2
    clear hh hok hs1 ht1
    go_wp2_with fail
    refine (m_Comp HQ HR _).mono ?_
    rintro e w2 ⟨rfl, hb2⟩
    replace h1 := h1.keep hb2
    replace hb := below_step hb hb2
    clear hb2
    go_wp2_with fail
    refine (s_Comp HQ HR _).mono ?_
    rintro e w' ⟨rfl, rfl⟩
    go_wp2_with fail
    refine (DrawSimulatesForward_at b lb cb zb w2 h1).mono ?_
    rintro e w3 ⟨⟨s2, v, u2, hs2, hv2, hu2, rfl⟩, hb3⟩
    replace hb := below_step hb hb3
    clear hb3 h1 hs2 hu2
    cases hv : okTr v
    · have HV : Hid ((okTxt 4 (txt 4 r) && okTr v) = false) := by show _ = _; rw [hv, Bool.and_false]
      clear hv
      go_wp2_with fail
      refine (impl_ConcreteLeast (txt 4 r) v (sz4 r) (tr_size hv2) _).mono ?_
      rintro e wn147 ⟨rfl, hbn⟩
      replace hb := below_step hb hbn
      clear hbn
      rw [HV.out]
      go_wp2_with fail
      go_ret
      exact ⟨rfl, hb⟩
    · obtain ⟨x, HX, rfl⟩ := tr_of hv
      clear hv hv2
      have hq16 : C ((lb : Int) % 16) := ⟨by omega, by omega⟩
      have HC := comp_ok (q := q) HR
      have MU := Mon.conc HR HX
      have MV := Mon.conc HQ MU
      have E1 := Lib.hid (fwd_comp HQ HR HX MU MV (fwd_least HR HX) (fwd_least HQ MU))
      have E2 := Lib.hid (dia_comp HQ HR hq16)
      have E3 := Lib.hid (box_turn_comp HQ HR hq16)
      go_wp2_with fail
      refine (m_CLeast HR HX _).mono ?_
      rintro e wn148 ⟨rfl, hbn⟩
      replace hb := below_step hb hbn
      clear hbn
      go_wp2_with fail
      refine (m_CLeast HQ MU _).mono ?_
      rintro e wn149 ⟨rfl, hbn⟩
      replace hb := below_step hb hbn
      clear hbn
      go_wp2_with fail
      refine (m_Fwd HC HX MV _).mono ?_
      rintro e wn150 ⟨rfl, hbn⟩
      replace hb := below_step hb hbn
      clear hbn
      rw [E1.out]
      go_wp2_with fail
      refine (m_Conc HC hq16 _).mono ?_
      rintro e wn151 ⟨rfl, hbn⟩
      replace hb := below_step hb hbn
      clear hbn
      rw [E2.out]
      go_wp2_with fail
      refine (m_Conc HR hq16 _).mono ?_
      rintro e wn152 ⟨rfl, hbn⟩
      replace hb := below_step hb hbn
      clear hbn
      go_wp2_with fail
      refine (m_Conc HQ (dia_ok _ _) _).mono ?_
      rintro e wn153 ⟨rfl, hbn⟩
      replace hb := below_step hb hbn
      clear hbn
      go_wp2_with fail
      refine (m_Abs HC hq16 _).mono ?_
      rintro e wn154 ⟨rfl, hbn⟩
      replace hb := below_step hb hbn
      clear hbn
      rw [E3.out]
      go_wp2_with fail
      refine (m_Abs HQ hq16 _).mono ?_
      rintro e wn155 ⟨rfl, hbn⟩
      replace hb := below_step hb hbn
      clear hbn
      go_wp2_with fail
      refine (m_Abs HR (box_ok _ _) _).mono ?_
      rintro e wn156 ⟨rfl, hbn⟩
      replace hb := below_step hb hbn
      clear hbn
      go_wp2_with fail
      go_ret
      exact ⟨rfl, hb⟩
theorem walk_Views (a : Option Addr) (la ca : Nat) (za : List Int) (b : Option Addr) (lb cb : Nat) (zb : List Int) (w : World) (h0 : IsRow .u8 w a la ca za) (h1 : IsRow .u8 w b lb cb zb) :
    Calls Try.prog 8 #[.slice a la ca, .slice b lb cb] w fun e w' => e = .returned (.bool true) ∧ Below w.heap.size w w' := by
  by_cases hs : la ≤ 1048576
  · by_cases hq : lb ≤ 1048576
    · exact in_Views a la ca za b lb cb zb w h0 h1 hs hq
    · go_enter Try.func8, Try.ntmps8
      go_wp2_with fail
      go_ret
      exact ⟨rfl, Below.refl _ _⟩
  · go_enter Try.func8, Try.ntmps8
    go_wp2_with fail
    go_ret
    exact ⟨rfl, Below.refl _ _⟩
end Go.Proofs.Ytfeaeabhnkehcaa
