/- Contracts: the reference's backward simulations and the greatest abstract transformer. -/
import Derived.Test.YtfeaeabhnkehcaaIm11
namespace Go.Proofs.Ytfeaeabhnkehcaa
set_option linter.unusedVariables false
set_option linter.unusedSimpArgs false
open Go.RowKit Go.Shelf
set_option maxRecDepth 100000
set_option maxHeartbeats 1000000

/-- the text of the demon's way, as the reference makes it -/
theorem way_eq (r : ByteArray) : Eq16 (dualT (val (txt 16 (angelT (val (txt 4 (turn (val r)))))))) (wayT (val r)) := by
  have h1 : Eq16 (val (txt 16 (angelT (val (txt 4 (turn (val r))))))) (angelT (turn (val r))) :=
    (eq16_txt (angelT_ok _)).trans (eq16_angel fun k hk => eq4_txt (turn_ok _) k hk)
  exact h1.dual.trans (dual_angel (turn_ok _))
theorem way_val (r : ByteArray) : Eq16 (val (txt 16 (dualT (val (txt 16 (angelT (val (txt 4 (turn (val r))))))))))  (wayT (val r)) :=
  (eq16_txt (dualT_ok (val_ok _))).trans (way_eq r)
theorem mono_way (r : ByteArray) : mono (wayT (val r)) = true := mono_demon (turn_ok _)

theorem spec_SimulatesBackward (r t u : ByteArray) (w : World) (hr : r.size ≤ 4611686018427387904) (ht : t.size ≤ 4611686018427387904) (hu : u.size ≤ 4611686018427387904) :
    Calls Try.prog 21 #[.string r, .string t, .string u] w fun e w' => e = .returned (.bool (okTxt 4 r && (okTr t && okTr u) && bwdT (val r) (val t) (val u))) ∧ w = w' := by
  cases hb : okTxt 4 r && (okTr t && okTr u)
  · have H := Lib.hid hb; clear hb
    go_enter Try.func21, Try.ntmps21
    go_wp2_with fail
    refine (spec_l11Ready _ _ _ _ hr ht hu).mono ?_
    rintro e w' ⟨rfl, rfl⟩
    rw [H.out]
    go_wp2_with fail
    go_ret
    exact ⟨rfl, rfl⟩
  · have H := Lib.hid hb; clear hb
    have hh : okTxt 4 r = true ∧ okTr t = true ∧ okTr u = true := by have := H.out; simpa using this
    obtain ⟨h1, h2, h3⟩ := hh
    have HR := Lib.hid h1
    have HT := Lib.hid (okTr_txt h2)
    have HU := Lib.hid (okTr_txt h3)
    have MT := Lib.hid (okTr_mono h2)
    have MU := Lib.hid (okTr_mono h3)
    clear h1 h2 h3
    go_enter Try.func21, Try.ntmps21
    go_wp2_with fail
    refine (spec_l11Ready _ _ _ _ hr ht hu).mono ?_
    rintro e w' ⟨rfl, rfl⟩
    rw [H.out]
    go_wp2_with fail
    refine (spec_l2Turn' _ _ HR).mono ?_
    rintro e w' ⟨rfl, rfl⟩
    go_wp2_with fail
    refine (spec_l3Angel _ _ (hid_txt (turn_ok _))).mono ?_
    rintro e w' ⟨rfl, rfl⟩
    go_wp2_with fail
    refine (spec_l3Dual _ _ (hid_txt (angelT_ok _))).mono ?_
    rintro e w' ⟨rfl, rfl⟩
    go_wp2_with fail
    refine (spec_l3Then _ _ _ HT (hid_txt (dualT_ok (val_ok _)))).mono ?_
    rintro e w' ⟨rfl, rfl⟩
    go_wp2_with fail
    refine (spec_l3Then _ _ _ (hid_txt (dualT_ok (val_ok _))) HU).mono ?_
    rintro e w' ⟨rfl, rfl⟩
    go_wp2_with fail
    refine (spec_RefinesTrans _ _ _ (by rw [txt_size]; decide) (by rw [txt_size]; decide)).mono ?_
    rintro e w' ⟨rfl, rfl⟩
    go_wp2_with fail
    go_ret
    refine ⟨ret_bool ?_, rfl⟩
    have e1 := Eq16.then (Eq16.refl (val t)) (way_val r) (wayT_ok _)
    have e2 := Eq16.then (way_val r) (Eq16.refl (val u)) (val_ok u)
    rw [e1.txt, e2.txt, okTr_of (thenT_ok (val_ok t) _) (mono_then (val_ok t) (wayT_ok _) MT.out (mono_way r)),
      okTr_of (thenT_ok (wayT_ok _) _) (mono_then (wayT_ok _) (val_ok u) (mono_way r) MU.out)]
    simp only [Bool.true_and, bwdT]
    exact Eq16.ref (eq16_txt (thenT_ok (val_ok t) _)) (eq16_txt (thenT_ok (wayT_ok _) _))

theorem spec_AbstractMost (r t : ByteArray) (w : World) (hr : r.size ≤ 4611686018427387904) (ht : t.size ≤ 4611686018427387904) :
    Calls Try.prog 25 #[.string r, .string t] w fun e w' => e = .returned (.tuple #[.string (orNone (okTxt 4 r && okTr t) (txt 16 (absT (val r) (val t)))), .bool (okTxt 4 r && okTr t)]) ∧ w = w' := by
  cases h1 : okTxt 4 r
  · have H := Lib.hid h1; clear h1
    go_enter Try.func25, Try.ntmps25
    go_wp2_with fail
    refine (spec_RelValid _ _ hr).mono ?_
    rintro e w' ⟨rfl, rfl⟩
    rw [H.out]
    go_wp2_with fail
    go_ret2
    exact ⟨rfl, rfl⟩
  · have H := Lib.hid h1; clear h1
    cases h2 : okTr t
    · have H2 := Lib.hid h2; clear h2
      go_enter Try.func25, Try.ntmps25
      go_wp2_with fail
      refine (spec_RelValid _ _ hr).mono ?_
      rintro e w' ⟨rfl, rfl⟩
      rw [H.out]
      go_wp2_with fail
      refine (spec_TransValid _ _ ht).mono ?_
      rintro e w' ⟨rfl, rfl⟩
      rw [H2.out]
      go_wp2_with fail
      go_ret2
      exact ⟨rfl, rfl⟩
    · have H2 := Lib.hid h2
      have HT := Lib.hid (okTr_txt h2); clear h2
      go_enter Try.func25, Try.ntmps25
      go_wp2_with fail
      refine (spec_RelValid _ _ hr).mono ?_
      rintro e w' ⟨rfl, rfl⟩
      rw [H.out]
      go_wp2_with fail
      refine (spec_TransValid _ _ ht).mono ?_
      rintro e w' ⟨rfl, rfl⟩
      rw [H2.out]
      go_wp2_with fail
      refine (spec_l2Turn' _ _ H).mono ?_
      rintro e w' ⟨rfl, rfl⟩
      go_wp2_with fail
      refine (spec_l3Angel _ _ (hid_txt (turn_ok _))).mono ?_
      rintro e w' ⟨rfl, rfl⟩
      go_wp2_with fail
      refine (spec_l3Dual _ _ (hid_txt (angelT_ok _))).mono ?_
      rintro e w' ⟨rfl, rfl⟩
      go_wp2_with fail
      refine (spec_l3Then _ _ _ (hid_txt (dualT_ok (val_ok _))) HT).mono ?_
      rintro e w' ⟨rfl, rfl⟩
      go_wp2_with fail
      refine (spec_l10Most _ _ _ (hid_txt (dualT_ok (val_ok _))) (hid_txt (thenT_ok (val_ok _) _))).mono ?_
      rintro e w' ⟨rfl, rfl⟩
      go_wp2_with fail
      go_ret2
      refine ⟨?_, rfl⟩
      have e1 := Eq16.then (way_val r) (Eq16.refl (val t)) (val_ok t)
      have e2 := Eq16.most (way_val r) ((eq16_txt (thenT_ok (val_ok _) (val t))).trans e1)
      rw [e2.txt]; rfl
end Go.Proofs.Ytfeaeabhnkehcaa
