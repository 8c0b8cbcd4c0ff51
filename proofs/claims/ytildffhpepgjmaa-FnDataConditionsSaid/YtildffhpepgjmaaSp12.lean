/- Contracts: the reference's residuals; whether one can go before. -/
import Derived.Test.YtildffhpepgjmaaIm12
import Derived.ChangeKeysEq
namespace Go.Proofs.Ytildffhpepgjmaa
set_option linter.unusedVariables false
set_option linter.unusedSimpArgs false
open Go.RowKit Go.Shelf
set_option maxRecDepth 100000
set_option maxHeartbeats 1000000

/-- can one go before t that makes u of it? -/
def goB (t u : Nat → Int) : Bool := decide (txt 16 (thenT (mostT t u) t) = txt 16 u)
theorem goB_congr {t t' u u' : Nat → Int} (ht : Cond t') (a : Eq16 t t') (b : Eq16 u u') : goB t u = goB t' u' := by
  unfold goB
  rw [(Eq16.then (a.most b) a ht).txt, b.txt]

theorem spec_BeforeMost (t u : ByteArray) (w : World) (ht : t.size ≤ 4611686018427387904) (hu : u.size ≤ 4611686018427387904) :
    Calls Try.prog 28 #[.string t, .string u] w fun e w' => e = .returned (.tuple #[.string (orNone (okTr t && okTr u) (txt 16 (mostT (val t) (val u)))), .bool (okTr t && okTr u)]) ∧ w = w' := by
  cases hb : okTr t && okTr u
  · have H := Lib.hid hb; clear hb
    go_enter Try.func28, Try.ntmps28
    go_wp2_with fail
    refine (spec_l3Both _ _ _ ht hu).mono ?_
    rintro e w' ⟨rfl, rfl⟩
    rw [H.out]
    go_wp2_with fail
    go_ret2
    exact ⟨rfl, rfl⟩
  · have H := Lib.hid hb
    have hh : okTr t = true ∧ okTr u = true := by simpa using hb
    have HT := Lib.hid (okTr_txt hh.1)
    have HU := Lib.hid (okTr_txt hh.2)
    clear hh hb
    go_enter Try.func28, Try.ntmps28
    go_wp2_with fail
    refine (spec_l3Both _ _ _ ht hu).mono ?_
    rintro e w' ⟨rfl, rfl⟩
    rw [H.out]
    go_wp2_with fail
    refine (spec_l10Most _ _ _ HT HU).mono ?_
    rintro e w' ⟨rfl, rfl⟩
    go_wp2_with fail
    go_ret2
    exact ⟨rfl, rfl⟩

theorem spec_BeforeLeast (t u : ByteArray) (w : World) (ht : t.size ≤ 4611686018427387904) (hu : u.size ≤ 4611686018427387904) :
    Calls Try.prog 30 #[.string t, .string u] w fun e w' => e = .returned (.tuple #[.string (orNone (okTr t && okTr u) (txt 16 (leastT (val t) (val u)))), .bool (okTr t && okTr u)]) ∧ w = w' := by
  cases hb : okTr t && okTr u
  · have H := Lib.hid hb; clear hb
    go_enter Try.func30, Try.ntmps30
    go_wp2_with fail
    refine (spec_l3Both _ _ _ ht hu).mono ?_
    rintro e w' ⟨rfl, rfl⟩
    rw [H.out]
    go_wp2_with fail
    go_ret2
    exact ⟨rfl, rfl⟩
  · have H := Lib.hid hb
    have hh : okTr t = true ∧ okTr u = true := by simpa using hb
    have HT := Lib.hid (okTr_txt hh.1)
    have HU := Lib.hid (okTr_txt hh.2)
    clear hh hb
    go_enter Try.func30, Try.ntmps30
    go_wp2_with fail
    refine (spec_l3Both _ _ _ ht hu).mono ?_
    rintro e w' ⟨rfl, rfl⟩
    rw [H.out]
    go_wp2_with fail
    refine (spec_l10Least _ _ _ HT HU).mono ?_
    rintro e w' ⟨rfl, rfl⟩
    go_wp2_with fail
    go_ret2
    exact ⟨rfl, rfl⟩

theorem spec_CanGoBefore (t u : ByteArray) (w : World) (ht : t.size ≤ 4611686018427387904) (hu : u.size ≤ 4611686018427387904) :
    Calls Try.prog 22 #[.string t, .string u] w fun e w' => e = .returned (.bool (okTr t && okTr u && goB (val t) (val u))) ∧ w = w' := by
  cases hb : okTr t && okTr u
  · have H := Lib.hid hb; clear hb
    go_enter Try.func22, Try.ntmps22
    go_wp2_with fail
    refine (spec_l3Both _ _ _ ht hu).mono ?_
    rintro e w' ⟨rfl, rfl⟩
    rw [H.out]
    go_wp2_with fail
    go_ret
    exact ⟨rfl, rfl⟩
  · have H := Lib.hid hb
    have hh : okTr t = true ∧ okTr u = true := by simpa using hb
    have HT := Lib.hid (okTr_txt hh.1)
    have HU := Lib.hid (okTr_txt hh.2)
    clear hh hb
    go_enter Try.func22, Try.ntmps22
    go_wp2_with fail
    refine (spec_l3Both _ _ _ ht hu).mono ?_
    rintro e w' ⟨rfl, rfl⟩
    rw [H.out]
    go_wp2_with fail
    refine (spec_l10Most _ _ _ HT HU).mono ?_
    rintro e w' ⟨rfl, rfl⟩
    go_wp2_with fail
    refine (spec_l3Then _ _ _ (hid_txt (mostT_ok (val_ok _))) HT).mono ?_
    rintro e w' ⟨rfl, rfl⟩
    go_wp2_with fail
    go_ret
    refine ⟨ret_bool ?_, rfl⟩
    rw [str_beq, Bool.true_and]
    unfold goB
    have e1 : Eq16 (thenT (val (txt 16 (mostT (val t) (val u)))) (val t)) (thenT (mostT (val t) (val u)) (val t)) := (eq16_txt (mostT_ok (val_ok u))).then (Eq16.refl _) (val_ok t)
    rw [e1.txt, txt_val HU.out]

theorem spec_BehindAngel (r t : ByteArray) (w : World) (hr : r.size ≤ 4611686018427387904) (ht : t.size ≤ 4611686018427387904) :
    Calls Try.prog 41 #[.string r, .string t] w fun e w' => e = .returned (.tuple #[.string (orNone (okTxt 4 r && okTr t) (txt 16 (behA (val r) (val t)))), .bool (okTxt 4 r && okTr t)]) ∧ w = w' := by
  cases h1 : okTxt 4 r
  · have H := Lib.hid h1; clear h1
    go_enter Try.func41, Try.ntmps41
    go_wp2_with fail
    refine (spec_RelValid _ _ hr).mono ?_
    rintro e w' ⟨rfl, rfl⟩
    rw [H.out]
    go_wp2_with fail
    go_ret2
    exact ⟨rfl, rfl⟩
  · have H := Lib.hid h1; clear h1
    cases h2 : okTr t
    · have H2 := Lib.hid h2; clear h2
      go_enter Try.func41, Try.ntmps41
      go_wp2_with fail
      refine (spec_RelValid _ _ hr).mono ?_
      rintro e w' ⟨rfl, rfl⟩
      rw [H.out]
      go_wp2_with fail
      refine (spec_TransValid _ _ ht).mono ?_
      rintro e w' ⟨rfl, rfl⟩
      rw [H2.out]
      go_wp2_with fail
      go_ret2
      exact ⟨rfl, rfl⟩
    · have H2 := Lib.hid h2
      have HT := Lib.hid (okTr_txt h2); clear h2
      go_enter Try.func41, Try.ntmps41
      go_wp2_with fail
      refine (spec_RelValid _ _ hr).mono ?_
      rintro e w' ⟨rfl, rfl⟩
      rw [H.out]
      go_wp2_with fail
      refine (spec_TransValid _ _ ht).mono ?_
      rintro e w' ⟨rfl, rfl⟩
      rw [H2.out]
      go_wp2_with fail
      refine (spec_l2Turn' _ _ H).mono ?_
      rintro e w' ⟨rfl, rfl⟩
      go_wp2_with fail
      refine (spec_l3Angel _ _ (hid_txt (turn_ok _))).mono ?_
      rintro e w' ⟨rfl, rfl⟩
      go_wp2_with fail
      refine (spec_l3Dual _ _ (hid_txt (angelT_ok _))).mono ?_
      rintro e w' ⟨rfl, rfl⟩
      go_wp2_with fail
      refine (spec_l3Then _ _ _ (hid_txt (dualT_ok (val_ok _))) HT).mono ?_
      rintro e w' ⟨rfl, rfl⟩
      go_wp2_with fail
      go_ret2
      refine ⟨?_, rfl⟩
      rw [(Eq16.then (way_val r) (Eq16.refl (val t)) (val_ok t)).txt]; rfl

theorem spec_BehindDemon (r t : ByteArray) (w : World) (hr : r.size ≤ 4611686018427387904) (ht : t.size ≤ 4611686018427387904) :
    Calls Try.prog 43 #[.string r, .string t] w fun e w' => e = .returned (.tuple #[.string (orNone (okTxt 4 r && okTr t) (txt 16 (behD (val r) (val t)))), .bool (okTxt 4 r && okTr t)]) ∧ w = w' := by
  cases h1 : okTxt 4 r
  · have H := Lib.hid h1; clear h1
    go_enter Try.func43, Try.ntmps43
    go_wp2_with fail
    refine (spec_RelValid _ _ hr).mono ?_
    rintro e w' ⟨rfl, rfl⟩
    rw [H.out]
    go_wp2_with fail
    go_ret2
    exact ⟨rfl, rfl⟩
  · have H := Lib.hid h1; clear h1
    cases h2 : okTr t
    · have H2 := Lib.hid h2; clear h2
      go_enter Try.func43, Try.ntmps43
      go_wp2_with fail
      refine (spec_RelValid _ _ hr).mono ?_
      rintro e w' ⟨rfl, rfl⟩
      rw [H.out]
      go_wp2_with fail
      refine (spec_TransValid _ _ ht).mono ?_
      rintro e w' ⟨rfl, rfl⟩
      rw [H2.out]
      go_wp2_with fail
      go_ret2
      exact ⟨rfl, rfl⟩
    · have H2 := Lib.hid h2
      have HT := Lib.hid (okTr_txt h2); clear h2
      go_enter Try.func43, Try.ntmps43
      go_wp2_with fail
      refine (spec_RelValid _ _ hr).mono ?_
      rintro e w' ⟨rfl, rfl⟩
      rw [H.out]
      go_wp2_with fail
      refine (spec_TransValid _ _ ht).mono ?_
      rintro e w' ⟨rfl, rfl⟩
      rw [H2.out]
      go_wp2_with fail
      refine (spec_l2Turn' _ _ H).mono ?_
      rintro e w' ⟨rfl, rfl⟩
      go_wp2_with fail
      refine (spec_l3Angel _ _ (hid_txt (turn_ok _))).mono ?_
      rintro e w' ⟨rfl, rfl⟩
      go_wp2_with fail
      refine (spec_l3Then _ _ _ (hid_txt (angelT_ok _)) HT).mono ?_
      rintro e w' ⟨rfl, rfl⟩
      go_wp2_with fail
      go_ret2
      refine ⟨?_, rfl⟩
      have h1 : Eq16 (val (txt 16 (angelT (val (txt 4 (turn (val r))))))) (angelT (turn (val r))) :=
        (eq16_txt (angelT_ok _)).trans (eq16_angel fun k hk => eq4_txt (turn_ok _) k hk)
      rw [(Eq16.then h1 (Eq16.refl (val t)) (val_ok t)).txt]; rfl

/-! ### the program's -/
/-- are two rows the same? -/
def eqT (n : Nat) (f g : Nat → Int) : Bool := (List.range n).all fun k => f k == g k
theorem run_eqItems_cs {P : Program} (w : World) (E d n : Nat) (f g : Nat → Int) (he : P.underlying E = some (.int .i64)) (hi : (P.info? E).map (·.size) = some 1) :
    ∀ is : List Nat, (∀ i ∈ is, i < n) → (Op.eqItems (d + 1) E 1 (cs n f) (cs n g) is).run P w = .ok (is.all fun k => f k == g k) w := by
  obtain ⟨I, hI, hz⟩ : ∃ I, P.info? E = some I ∧ I.size = 1 := by
    cases hq : P.info? E with
    | none => simp [hq] at hi
    | some I => exact ⟨I, rfl, by simpa [hq] using hi⟩
  intro is
  induction is with
  | nil => intro _; simp [Op.eqItems]
  | cons i is ih =>
    intro hall
    have hk := hall i (by simp)
    have h1 := ih fun j hj => hall j (by simp [hj])
    simp only [Op.eqItems, Sem.run_bind, List.all_cons]
    simp [Nat.mul_one, part, isAgg, sizeOf, typeInfo, hI, hz, run_underlying he, cs_get _ f i hk, cs_get _ g i hk, Op.equalIn]
    by_cases hb : f i = g i
    · simp [hb, h1]
    · simp [hb]
theorem run_equal_cs {P : Program} (w : World) (T E n d : Nat) (f g : Nat → Int) (hu : P.underlying T = some (.array n E)) (he : P.underlying E = some (.int .i64)) (hi : (P.info? E).map (·.size) = some 1) :
    (Op.equalIn (d + 2) T (.agg (cs n f)) (.agg (cs n g))).run P w = .ok (eqT n f g) w := by
  obtain ⟨I, hI, hz⟩ : ∃ I, P.info? E = some I ∧ I.size = 1 := by
    cases hq : P.info? E with
    | none => simp [hq] at hi
    | some I => exact ⟨I, rfl, by simpa [hq] using hi⟩
  have hc : P.cellsOf E = 1 := by simp [Program.cellsOf, hI, hz]
  rw [run_equalIn_array w (d + 1) _ _ hu hI, hc]
  exact run_eqItems_cs w E d n f g he hi _ fun i h => by simpa using h
theorem eqT_goB {f g : Nat → Int} (hf : Cond f) (hg : Cond g) : eqT 16 f g = decide (txt 16 f = txt 16 g) := by
  rw [Bool.eq_iff_iff, decide_eq_true_eq]
  simp only [eqT, List.all_eq_true, List.mem_range, beq_iff_eq]
  exact ⟨fun h => txt_ext h, fun h k hk => by rw [← val_txt 16 f hf k hk, h, val_txt 16 g hg k hk]⟩

theorem impl_CanGoBefore_no1 (t u : ByteArray) (ht : t.size ≤ 4611686018427387904) (hu : u.size ≤ 4611686018427387904) (w : World) (H1 : Hid (okTr t = false)) :
    Calls Try.prog 20 #[.string t, .string u] w fun e w' => e = .returned (.bool false) ∧ Below w.heap.size w w' := by
  go_enter Try.func20, Try.ntmps20
  go_wp2_with fail
  refine (impl_readTrans _ ht _).mono ?_
  rintro e w1 ⟨rfl, hb1⟩
  rw [H1.out]
  go_wp2_with (refine wp_store_New rfl 52 _ _ rfl rfl (f := tabT t) rfl rfl trans_i ?_)
  refine (impl_readTrans _ hu _).mono ?_
  rintro e w2 ⟨rfl, hb2⟩
  have hb := below_new (below_step (below_new hb1 (.cells (cs 16 (tabT t)) 52)) hb2) (.cells (cs 16 (tabT u)) 52)
  go_wp2_with (refine wp_store_New rfl 52 _ _ rfl rfl (f := tabT u) rfl rfl trans_i ?_)
  refine wp_region_held_drew (S := fun _ => True) (by kernel_rfl) ?_ (fun hS => ?_)
  · exact trivial
  refine wpAnyH_take (i := 0) (v := .bool false) rfl (by kernel_rfl) (by kernel_rfl) (by kernel_rfl) (fun _ _ _ h => h) (Or.inl ⟨by rfl, ?_⟩) hS ?_
  · intro w hSw
    go_simp
  simp only [Act.put, List.getElem_toArray, List.getElem_cons_succ, List.getElem_cons_zero, List.setIfInBounds_toArray, List.set_cons_zero, List.set_cons_succ]
  refine wpAnyH_take (i := 1) (v := .bool false) rfl (by kernel_rfl) (by kernel_rfl) (by kernel_rfl) (fun _ _ _ h => h) (Or.inl ⟨by rfl, ?_⟩) hS ?_
  · intro w hSw
    go_simp
  simp only [Act.put, List.getElem_toArray, List.getElem_cons_succ, List.getElem_cons_zero, List.setIfInBounds_toArray, List.set_cons_zero, List.set_cons_succ]
  refine wpAnyH_take (i := 2) (v := undef) rfl (by kernel_rfl) (by kernel_rfl) (by kernel_rfl) (fun _ _ _ h => h) (Or.inr ⟨by rfl, rfl⟩) hS ?_
  simp only [Act.put, List.getElem_toArray, List.getElem_cons_succ, List.getElem_cons_zero, List.setIfInBounds_toArray, List.set_cons_zero, List.set_cons_succ]
  refine wpAnyH_take (i := 3) (v := .bool false) rfl (by kernel_rfl) (by kernel_rfl) (by kernel_rfl) (fun _ _ _ h => h) (Or.inl ⟨by rfl, ?_⟩) hS ?_
  · intro w hSw
    go_simp
  simp only [Act.put, List.getElem_toArray, List.getElem_cons_succ, List.getElem_cons_zero, List.setIfInBounds_toArray, List.set_cons_zero, List.set_cons_succ]
  refine wpAnyH_take (i := 4) (v := .bool false) rfl (by kernel_rfl) (by kernel_rfl) (by kernel_rfl) (fun _ _ _ h => h) (Or.inl ⟨by rfl, ?_⟩) hS ?_
  · intro w hSw
    go_simp
  simp only [Act.put, List.getElem_toArray, List.getElem_cons_succ, List.getElem_cons_zero, List.setIfInBounds_toArray, List.set_cons_zero, List.set_cons_succ]
  refine wpAnyH_take (i := 5) (v := undef) rfl (by kernel_rfl) (by kernel_rfl) (by kernel_rfl) (fun _ _ _ h => h) (Or.inr ⟨by rfl, rfl⟩) hS ?_
  simp only [Act.put, List.getElem_toArray, List.getElem_cons_succ, List.getElem_cons_zero, List.setIfInBounds_toArray, List.set_cons_zero, List.set_cons_succ]
  refine wpAnyH_take (i := 6) (v := undef) rfl (by kernel_rfl) (by kernel_rfl) (by kernel_rfl) (fun _ _ _ h => h) (Or.inr ⟨by rfl, rfl⟩) hS ?_
  simp only [Act.put, List.getElem_toArray, List.getElem_cons_succ, List.getElem_cons_zero, List.setIfInBounds_toArray, List.set_cons_zero, List.set_cons_succ]
  refine wpAnyH_take (i := 7) (v := undef) rfl (by kernel_rfl) (by kernel_rfl) (by kernel_rfl) (fun _ _ _ h => h) (Or.inr ⟨by rfl, rfl⟩) hS ?_
  simp only [Act.put, List.getElem_toArray, List.getElem_cons_succ, List.getElem_cons_zero, List.setIfInBounds_toArray, List.set_cons_zero, List.set_cons_succ]
  refine wpAnyH_take (i := 8) (v := undef) rfl (by kernel_rfl) (by kernel_rfl) (by kernel_rfl) (fun _ _ _ h => h) (Or.inr ⟨by rfl, rfl⟩) hS ?_
  simp only [Act.put, List.getElem_toArray, List.getElem_cons_succ, List.getElem_cons_zero, List.setIfInBounds_toArray, List.set_cons_zero, List.set_cons_succ]
  refine wpAnyH_take (i := 9) (v := undef) rfl (by kernel_rfl) (by kernel_rfl) (by kernel_rfl) (fun _ _ _ h => h) (Or.inr ⟨by rfl, rfl⟩) hS ?_
  simp only [Act.put, List.getElem_toArray, List.getElem_cons_succ, List.getElem_cons_zero, List.setIfInBounds_toArray, List.set_cons_zero, List.set_cons_succ]
  refine wpAnyH_take (i := 10) (v := undef) rfl (by kernel_rfl) (by kernel_rfl) (by kernel_rfl) (fun _ _ _ h => h) (Or.inr ⟨by rfl, rfl⟩) hS ?_
  simp only [Act.put, List.getElem_toArray, List.getElem_cons_succ, List.getElem_cons_zero, List.setIfInBounds_toArray, List.set_cons_zero, List.set_cons_succ]
  refine wpAnyH_take (i := 11) (v := undef) rfl (by kernel_rfl) (by kernel_rfl) (by kernel_rfl) (fun _ _ _ h => h) (Or.inr ⟨by rfl, rfl⟩) hS ?_
  simp only [Act.put, List.getElem_toArray, List.getElem_cons_succ, List.getElem_cons_zero, List.setIfInBounds_toArray, List.set_cons_zero, List.set_cons_succ]
  refine wpAnyH_take (i := 12) (v := .bool false) rfl (by kernel_rfl) (by kernel_rfl) (by kernel_rfl) (fun _ _ _ h => h) (Or.inl ⟨by rfl, ?_⟩) hS ?_
  · intro w hSw
    go_simp
  simp only [Act.put, List.getElem_toArray, List.getElem_cons_succ, List.getElem_cons_zero, List.setIfInBounds_toArray, List.set_cons_zero, List.set_cons_succ]
  refine wpAnyH_take (i := 13) (v := .bool false) rfl (by kernel_rfl) (by kernel_rfl) (by kernel_rfl) (fun _ _ _ h => h) (Or.inl ⟨by rfl, ?_⟩) hS ?_
  · intro w hSw
    go_simp
  simp only [Act.put, List.getElem_toArray, List.getElem_cons_succ, List.getElem_cons_zero, List.setIfInBounds_toArray, List.set_cons_zero, List.set_cons_succ]
  refine wpAnyH_done (by kernel_rfl) ?_ _
  go_wp2_with fail
  go_ret
  exact ⟨rfl, hb.drew⟩

theorem impl_CanGoBefore_no2 (t u : ByteArray) (ht : t.size ≤ 4611686018427387904) (hu : u.size ≤ 4611686018427387904) (w : World) (H1 : Hid (okTr t = true)) (H2 : Hid (okTr u = false)) :
    Calls Try.prog 20 #[.string t, .string u] w fun e w' => e = .returned (.bool false) ∧ Below w.heap.size w w' := by
  go_enter Try.func20, Try.ntmps20
  go_wp2_with fail
  refine (impl_readTrans _ ht _).mono ?_
  rintro e w1 ⟨rfl, hb1⟩
  rw [H1.out]
  go_wp2_with (refine wp_store_New rfl 52 _ _ rfl rfl (f := tabT t) rfl rfl trans_i ?_)
  refine (impl_readTrans _ hu _).mono ?_
  rintro e w2 ⟨rfl, hb2⟩
  rw [H2.out]
  have hb := below_new (below_step (below_new hb1 (.cells (cs 16 (tabT t)) 52)) hb2) (.cells (cs 16 (tabT u)) 52)
  go_wp2_with (refine wp_store_New rfl 52 _ _ rfl rfl (f := tabT u) rfl rfl trans_i ?_)
  refine wp_region_held_drew (S := fun _ => True) (by kernel_rfl) ?_ (fun hS => ?_)
  · exact trivial
  refine wpAnyH_take (i := 0) (v := .bool true) rfl (by kernel_rfl) (by kernel_rfl) (by kernel_rfl) (fun _ _ _ h => h) (Or.inl ⟨by rfl, ?_⟩) hS ?_
  · intro w hSw
    go_simp
  simp only [Act.put, List.getElem_toArray, List.getElem_cons_succ, List.getElem_cons_zero, List.setIfInBounds_toArray, List.set_cons_zero, List.set_cons_succ]
  refine wpAnyH_take (i := 1) (v := .bool true) rfl (by kernel_rfl) (by kernel_rfl) (by kernel_rfl) (fun _ _ _ h => h) (Or.inl ⟨by rfl, ?_⟩) hS ?_
  · intro w hSw
    go_simp
  simp only [Act.put, List.getElem_toArray, List.getElem_cons_succ, List.getElem_cons_zero, List.setIfInBounds_toArray, List.set_cons_zero, List.set_cons_succ]
  refine wpAnyH_take (i := 2) (v := .bool false) rfl (by kernel_rfl) (by kernel_rfl) (by kernel_rfl) (fun _ _ _ h => h) (Or.inl ⟨by rfl, ?_⟩) hS ?_
  · intro w hSw
    go_simp
  simp only [Act.put, List.getElem_toArray, List.getElem_cons_succ, List.getElem_cons_zero, List.setIfInBounds_toArray, List.set_cons_zero, List.set_cons_succ]
  refine wpAnyH_take (i := 3) (v := .bool false) rfl (by kernel_rfl) (by kernel_rfl) (by kernel_rfl) (fun _ _ _ h => h) (Or.inl ⟨by rfl, ?_⟩) hS ?_
  · intro w hSw
    go_simp
  simp only [Act.put, List.getElem_toArray, List.getElem_cons_succ, List.getElem_cons_zero, List.setIfInBounds_toArray, List.set_cons_zero, List.set_cons_succ]
  refine wpAnyH_take (i := 4) (v := .bool false) rfl (by kernel_rfl) (by kernel_rfl) (by kernel_rfl) (fun _ _ _ h => h) (Or.inl ⟨by rfl, ?_⟩) hS ?_
  · intro w hSw
    go_simp
  simp only [Act.put, List.getElem_toArray, List.getElem_cons_succ, List.getElem_cons_zero, List.setIfInBounds_toArray, List.set_cons_zero, List.set_cons_succ]
  refine wpAnyH_take (i := 5) (v := undef) rfl (by kernel_rfl) (by kernel_rfl) (by kernel_rfl) (fun _ _ _ h => h) (Or.inr ⟨by rfl, rfl⟩) hS ?_
  simp only [Act.put, List.getElem_toArray, List.getElem_cons_succ, List.getElem_cons_zero, List.setIfInBounds_toArray, List.set_cons_zero, List.set_cons_succ]
  refine wpAnyH_take (i := 6) (v := undef) rfl (by kernel_rfl) (by kernel_rfl) (by kernel_rfl) (fun _ _ _ h => h) (Or.inr ⟨by rfl, rfl⟩) hS ?_
  simp only [Act.put, List.getElem_toArray, List.getElem_cons_succ, List.getElem_cons_zero, List.setIfInBounds_toArray, List.set_cons_zero, List.set_cons_succ]
  refine wpAnyH_take (i := 7) (v := undef) rfl (by kernel_rfl) (by kernel_rfl) (by kernel_rfl) (fun _ _ _ h => h) (Or.inr ⟨by rfl, rfl⟩) hS ?_
  simp only [Act.put, List.getElem_toArray, List.getElem_cons_succ, List.getElem_cons_zero, List.setIfInBounds_toArray, List.set_cons_zero, List.set_cons_succ]
  refine wpAnyH_take (i := 8) (v := undef) rfl (by kernel_rfl) (by kernel_rfl) (by kernel_rfl) (fun _ _ _ h => h) (Or.inr ⟨by rfl, rfl⟩) hS ?_
  simp only [Act.put, List.getElem_toArray, List.getElem_cons_succ, List.getElem_cons_zero, List.setIfInBounds_toArray, List.set_cons_zero, List.set_cons_succ]
  refine wpAnyH_take (i := 9) (v := undef) rfl (by kernel_rfl) (by kernel_rfl) (by kernel_rfl) (fun _ _ _ h => h) (Or.inr ⟨by rfl, rfl⟩) hS ?_
  simp only [Act.put, List.getElem_toArray, List.getElem_cons_succ, List.getElem_cons_zero, List.setIfInBounds_toArray, List.set_cons_zero, List.set_cons_succ]
  refine wpAnyH_take (i := 10) (v := undef) rfl (by kernel_rfl) (by kernel_rfl) (by kernel_rfl) (fun _ _ _ h => h) (Or.inr ⟨by rfl, rfl⟩) hS ?_
  simp only [Act.put, List.getElem_toArray, List.getElem_cons_succ, List.getElem_cons_zero, List.setIfInBounds_toArray, List.set_cons_zero, List.set_cons_succ]
  refine wpAnyH_take (i := 11) (v := undef) rfl (by kernel_rfl) (by kernel_rfl) (by kernel_rfl) (fun _ _ _ h => h) (Or.inr ⟨by rfl, rfl⟩) hS ?_
  simp only [Act.put, List.getElem_toArray, List.getElem_cons_succ, List.getElem_cons_zero, List.setIfInBounds_toArray, List.set_cons_zero, List.set_cons_succ]
  refine wpAnyH_take (i := 12) (v := .bool false) rfl (by kernel_rfl) (by kernel_rfl) (by kernel_rfl) (fun _ _ _ h => h) (Or.inl ⟨by rfl, ?_⟩) hS ?_
  · intro w hSw
    go_simp
  simp only [Act.put, List.getElem_toArray, List.getElem_cons_succ, List.getElem_cons_zero, List.setIfInBounds_toArray, List.set_cons_zero, List.set_cons_succ]
  refine wpAnyH_take (i := 13) (v := .bool false) rfl (by kernel_rfl) (by kernel_rfl) (by kernel_rfl) (fun _ _ _ h => h) (Or.inl ⟨by rfl, ?_⟩) hS ?_
  · intro w hSw
    go_simp
  simp only [Act.put, List.getElem_toArray, List.getElem_cons_succ, List.getElem_cons_zero, List.setIfInBounds_toArray, List.set_cons_zero, List.set_cons_succ]
  refine wpAnyH_done (by kernel_rfl) ?_ _
  go_wp2_with fail
  go_ret
  exact ⟨rfl, hb.drew⟩

theorem impl_CanGoBefore_yes (t u : ByteArray) (ht : t.size ≤ 4611686018427387904) (hu : u.size ≤ 4611686018427387904) (w : World) (h1 : okTr t = true) (h2 : okTr u = true) :
    Calls Try.prog 20 #[.string t, .string u] w fun e w' => e = .returned (.bool (goB (val t) (val u))) ∧ Below w.heap.size w w' := by
  have H1 := Lib.hid h1; clear h1
  have H2 := Lib.hid h2; clear h2
  go_enter Try.func20, Try.ntmps20
  go_wp2_with fail
  refine (impl_readTrans _ ht _).mono ?_
  rintro e w1 ⟨rfl, hb1⟩
  rw [H1.out, tabT_val H1.out]
  go_wp2_with (refine wp_store_New rfl 52 _ _ rfl rfl (f := val t) rfl rfl trans_i ?_)
  refine (impl_readTrans _ hu _).mono ?_
  rintro e w2 ⟨rfl, hb2⟩
  rw [H2.out, tabT_val H2.out]
  have hb := below_new (below_step (below_new hb1 (.cells (cs 16 (val t)) 52)) hb2) (.cells (cs 16 (val u)) 52)
  go_wp2_with (refine wp_store_New rfl 52 _ _ rfl rfl (f := val u) rfl rfl trans_i ?_)
  have HT : Row (w2.alloc (.cells (cs 16 (val u)) 52)) w1.heap.size 52 16 (val t) := ((Row.new w1 _ 16 _).grown hb2).old _
  have HU : Row (w2.alloc (.cells (cs 16 (val u)) 52)) w2.heap.size 52 16 (val u) := Row.new w2 _ 16 _
  generalize w2.alloc (.cells (cs 16 (val u)) 52) = W at HT HU hb
  have hq := fun W => run_equal_cs (P := Try.prog) W 52 3 16 9998 (thenT (mostT (val t) (val u)) (val t)) (val u) trans_u Try.underlying3 (by kernel_rfl)
  refine wp_region_held_drew (S := fun W => Row W w1.heap.size 52 16 (val t) ∧ Row W w2.heap.size 52 16 (val u)) (by kernel_rfl) ?_ (fun hS => ?_)
  · exact ⟨HT.drew, HU.drew⟩
  refine wpAnyH_take (i := 0) (v := .bool true) rfl (by kernel_rfl) (by kernel_rfl) (by kernel_rfl) (fun _ _ _ h => h) (Or.inl ⟨by rfl, ?_⟩) hS ?_
  · intro w hSw
    go_simp
  simp only [Act.put, List.getElem_toArray, List.getElem_cons_succ, List.getElem_cons_zero, List.setIfInBounds_toArray, List.set_cons_zero, List.set_cons_succ]
  refine wpAnyH_take (i := 1) (v := .bool true) rfl (by kernel_rfl) (by kernel_rfl) (by kernel_rfl) (fun _ _ _ h => h) (Or.inl ⟨by rfl, ?_⟩) hS ?_
  · intro w hSw
    go_simp
  simp only [Act.put, List.getElem_toArray, List.getElem_cons_succ, List.getElem_cons_zero, List.setIfInBounds_toArray, List.set_cons_zero, List.set_cons_succ]
  refine wpAnyH_take (i := 2) (v := .bool true) rfl (by kernel_rfl) (by kernel_rfl) (by kernel_rfl) (fun _ _ _ h => h) (Or.inl ⟨by rfl, ?_⟩) hS ?_
  · intro w hSw
    go_simp
  simp only [Act.put, List.getElem_toArray, List.getElem_cons_succ, List.getElem_cons_zero, List.setIfInBounds_toArray, List.set_cons_zero, List.set_cons_succ]
  refine wpAnyH_take (i := 3) (v := .bool true) rfl (by kernel_rfl) (by kernel_rfl) (by kernel_rfl) (fun _ _ _ h => h) (Or.inl ⟨by rfl, ?_⟩) hS ?_
  · intro w hSw
    go_simp
  simp only [Act.put, List.getElem_toArray, List.getElem_cons_succ, List.getElem_cons_zero, List.setIfInBounds_toArray, List.set_cons_zero, List.set_cons_succ]
  refine wpAnyH_take (i := 4) (v := .bool true) rfl (by kernel_rfl) (by kernel_rfl) (by kernel_rfl) (fun _ _ _ h => h) (Or.inl ⟨by rfl, ?_⟩) hS ?_
  · intro w hSw
    go_simp
  simp only [Act.put, List.getElem_toArray, List.getElem_cons_succ, List.getElem_cons_zero, List.setIfInBounds_toArray, List.set_cons_zero, List.set_cons_succ]
  refine wpAnyH_take (i := 5) (v := .agg (cs 16 (val t))) rfl (by kernel_rfl) (by kernel_rfl) (by kernel_rfl) (fun _ _ _ h => h) (yields_Row (by rfl) _ _ rfl (w1.heap.size) rfl (fun _ h => h.1) trans_u rfl trans_i) hS ?_
  simp only [Act.put, List.getElem_toArray, List.getElem_cons_succ, List.getElem_cons_zero, List.setIfInBounds_toArray, List.set_cons_zero, List.set_cons_succ]
  refine wpAnyH_take (i := 6) (v := .agg (cs 16 (val u))) rfl (by kernel_rfl) (by kernel_rfl) (by kernel_rfl) (fun _ _ _ h => h) (yields_Row (by rfl) _ _ rfl (w2.heap.size) rfl (fun _ h => h.2) trans_u rfl trans_i) hS ?_
  simp only [Act.put, List.getElem_toArray, List.getElem_cons_succ, List.getElem_cons_zero, List.setIfInBounds_toArray, List.set_cons_zero, List.set_cons_succ]
  refine wpAnyH_take (i := 8) (v := .agg (cs 16 (val t))) rfl (by kernel_rfl) (by kernel_rfl) (by kernel_rfl) (fun _ _ _ h => h) (yields_Row (by rfl) _ _ rfl (w1.heap.size) rfl (fun _ h => h.1) trans_u rfl trans_i) hS ?_
  simp only [Act.put, List.getElem_toArray, List.getElem_cons_succ, List.getElem_cons_zero, List.setIfInBounds_toArray, List.set_cons_zero, List.set_cons_succ]
  refine wpAnyH_take (i := 10) (v := .agg (cs 16 (val u))) rfl (by kernel_rfl) (by kernel_rfl) (by kernel_rfl) (fun _ _ _ h => h) (yields_Row (by rfl) _ _ rfl (w2.heap.size) rfl (fun _ h => h.2) trans_u rfl trans_i) hS ?_
  simp only [Act.put, List.getElem_toArray, List.getElem_cons_succ, List.getElem_cons_zero, List.setIfInBounds_toArray, List.set_cons_zero, List.set_cons_succ]
  refine wpAnyH_ready (rs := [7]) (by kernel_rfl) (by simp) ?_
  refine AllReadyH.cons rfl (fun K hK => ?_) AllReadyH.nil
  rw [if_pos (by rfl)]
  refine op_call 69 _ _ rfl (enters_of Try.func69 (by kernel_rfl) rfl) _ (impl_beforeMost _ _ _) rfl ?_
  rintro e w3 ⟨rfl, hb3⟩
  refine ⟨_, rfl, ?_⟩
  refine hK.out _ _ ?_ (fun hS1 => ?_)
  · exact ⟨hS.1.grown hb3, hS.2.grown hb3⟩
  clear hK K
  replace hS := hS1
  clear hS1
  simp only [Act.put, List.getElem_toArray, List.getElem_cons_succ, List.getElem_cons_zero, List.setIfInBounds_toArray, List.set_cons_zero, List.set_cons_succ]
  refine wpAnyH_ready (rs := [9]) (by kernel_rfl) (by simp) ?_
  refine AllReadyH.cons rfl (fun K hK => ?_) AllReadyH.nil
  rw [if_pos (by rfl)]
  refine op_call 62 _ _ rfl (enters_of Try.func62 (by kernel_rfl) rfl) _ (impl_then _ _ (val_ok t) _) rfl ?_
  rintro e w4 ⟨rfl, hb4⟩
  refine ⟨_, rfl, ?_⟩
  refine hK.out _ _ ?_ (fun hS1 => ?_)
  · exact ⟨hS.1.grown hb4, hS.2.grown hb4⟩
  clear hK K
  replace hS := hS1
  clear hS1
  simp only [Act.put, List.getElem_toArray, List.getElem_cons_succ, List.getElem_cons_zero, List.setIfInBounds_toArray, List.set_cons_zero, List.set_cons_succ]
  refine wpAnyH_take (i := 11) (v := .bool (eqT 16 (thenT (mostT (val t) (val u)) (val t)) (val u))) rfl (by kernel_rfl) (by kernel_rfl) (by kernel_rfl) (fun _ _ _ h => h) (Or.inl ⟨by rfl, ?_⟩) hS ?_
  · intro w hSw
    go_simp
  simp only [Act.put, List.getElem_toArray, List.getElem_cons_succ, List.getElem_cons_zero, List.setIfInBounds_toArray, List.set_cons_zero, List.set_cons_succ]
  refine wpAnyH_take (i := 12) (v := .bool (eqT 16 (thenT (mostT (val t) (val u)) (val t)) (val u))) rfl (by kernel_rfl) (by kernel_rfl) (by kernel_rfl) (fun _ _ _ h => h) (Or.inl ⟨by rfl, ?_⟩) hS ?_
  · intro w hSw
    go_simp
  simp only [Act.put, List.getElem_toArray, List.getElem_cons_succ, List.getElem_cons_zero, List.setIfInBounds_toArray, List.set_cons_zero, List.set_cons_succ]
  refine wpAnyH_take (i := 13) (v := .bool (eqT 16 (thenT (mostT (val t) (val u)) (val t)) (val u))) rfl (by kernel_rfl) (by kernel_rfl) (by kernel_rfl) (fun _ _ _ h => h) (Or.inl ⟨by rfl, ?_⟩) hS ?_
  · intro w hSw
    go_simp
  simp only [Act.put, List.getElem_toArray, List.getElem_cons_succ, List.getElem_cons_zero, List.setIfInBounds_toArray, List.set_cons_zero, List.set_cons_succ]
  refine wpAnyH_done (by kernel_rfl) ?_ _
  go_wp2_with fail
  go_ret
  refine ⟨ret_bool ?_, below_step (below_step hb.drew hb3) hb4⟩
  exact eqT_goB (thenT_ok (mostT_ok (val_ok u)) _) (val_ok u)

theorem impl_CanGoBefore (t u : ByteArray) (ht : t.size ≤ 4611686018427387904) (hu : u.size ≤ 4611686018427387904) (w : World) :
    Calls Try.prog 20 #[.string t, .string u] w fun e w' => e = .returned (.bool (okTr t && okTr u && goB (val t) (val u))) ∧ Below w.heap.size w w' := by
  cases h1 : okTr t
  · exact impl_CanGoBefore_no1 t u ht hu w h1
  · cases h2 : okTr u
    · exact impl_CanGoBefore_no2 t u ht hu w h1 h2
    · exact impl_CanGoBefore_yes t u ht hu w h1 h2
end Go.Proofs.Ytildffhpepgjmaa
