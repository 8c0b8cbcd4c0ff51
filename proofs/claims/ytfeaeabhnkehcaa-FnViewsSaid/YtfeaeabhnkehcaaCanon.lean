/- Contracts at texts of tables: the program's functions and the statements' own helpers. -/
import Derived.Test.YtfeaeabhnkehcaaSp12
import Derived.Test.YtfeaeabhnkehcaaDraw4
namespace Go.Proofs.Ytfeaeabhnkehcaa
set_option linter.unusedVariables false
set_option linter.unusedSimpArgs false
open Go.RowKit Go.Shelf
set_option maxRecDepth 100000
set_option maxHeartbeats 1000000

theorem IsRow.keep {k : IntKind} {w w' : World} {a : Option Addr} {len cap : Nat} {zs : List Int} (h : IsRow k w a len cap zs) (hb : Below w.heap.size w w') : IsRow k w' a len cap zs := by
  rcases h with h | ⟨x, rfl, hl, hm, hz, hc, hw⟩
  · exact .inl h
  · exact .inr ⟨x, rfl, hl, hm, hz, fun i hi => cell_grown (hc i hi) hb, hw⟩
theorem v16 {t : Nat → Int} (ht : Mon t) : Eq16 (val (txt 16 t)) t := eq16_txt ht.ok
theorem v4 {r : Nat → Int} (hr : Cond r) : ∀ k, k < 4 → val (txt 4 r) k = r k := fun k hk => eq4_txt hr k hk
theorem sz16 (t : Nat → Int) : (txt 16 t).size ≤ 4611686018427387904 := by rw [txt_size]; decide
theorem sz4 (t : Nat → Int) : (txt 4 t).size ≤ 4611686018427387904 := by rw [txt_size]; decide
/-- a text of a transformer is that of a monotone table -/
theorem tr_of {s : ByteArray} (h : okTr s = true) : ∃ t, Mon t ∧ s = txt 16 t := ⟨val s, mon_val h, (txt_val (okTr_txt h)).symm⟩
theorem rel_of {s : ByteArray} (h : okTxt 4 s = true) : ∃ t, Cond t ∧ s = txt 4 t := ⟨val s, val_ok s, (txt_val h).symm⟩
theorem tr_size {s : ByteArray} (h : s.size ≤ 20) : s.size ≤ 4611686018427387904 := by omega
theorem orNone_true (s : ByteArray) : orNone true s = s := rfl
theorem orMinus_true (s : Int) : orMinus true s = s := rfl
theorem skip_txt : txt 16 skipT = hexes := by decide +kernel
theorem turn_v4 {r : Nat → Int} (hr : Cond r) : ∀ k, k < 4 → turn (val (txt 4 r)) k = turn r k := fun k _ => by
  unfold turn; exact mk_congr fun t ht => by rw [v4 hr t ht]
theorem angel_v4 {r : Nat → Int} (hr : Cond r) : Eq16 (angelT (val (txt 4 r))) (angelT r) := eq16_angel (v4 hr)
theorem demon_v4 {r : Nat → Int} (hr : Cond r) : Eq16 (demonT (val (txt 4 r))) (demonT r) := eq16_demon (v4 hr)
theorem angel_turn_v4 {r : Nat → Int} (hr : Cond r) : Eq16 (angelT (turn (val (txt 4 r)))) (angelT (turn r)) := eq16_angel (turn_v4 hr)
theorem demon_turn_v4 {r : Nat → Int} (hr : Cond r) : Eq16 (demonT (turn (val (txt 4 r)))) (demonT (turn r)) := eq16_demon (turn_v4 hr)
theorem Eq16.fwd {r r' t t' u u' : Nat → Int} (a : Eq16 (angelT r) (angelT r')) (b : Eq16 t t') (c : Eq16 u u') (ht : Cond t') : fwdT r t u = fwdT r' t' u' :=
  Eq16.ref (a.then b ht) (c.then a (angelT_ok r'))
theorem Eq16.bwd {r r' t t' u u' : Nat → Int} (a : Eq16 (wayT r) (wayT r')) (b : Eq16 t t') (c : Eq16 u u') (hu : Cond u') : bwdT r t u = bwdT r' t' u' :=
  Eq16.ref (b.then a (wayT_ok r')) (a.then c hu)

theorem m_Valid {t : Nat → Int} (ht : Mon t) (w : World) : Calls Try.prog 23 #[.string (txt 16 t)] w fun e w' => e = .returned (.bool true) ∧ Below w.heap.size w w' := by
  have h := impl_TransValid (txt 16 t) (sz16 t) w
  rwa [ht.tr] at h
theorem m_Ref {t u : Nat → Int} (ht : Mon t) (hu : Mon u) (w : World) : Calls Try.prog 18 #[.string (txt 16 t), .string (txt 16 u)] w fun e w' => e = .returned (.bool (refT t u)) ∧ Below w.heap.size w w' := by
  have h := impl_RefinesTrans (txt 16 t) (txt 16 u) (sz16 t) (sz16 u) w
  rwa [ht.tr, hu.tr, Bool.true_and, Bool.true_and, Eq16.ref (v16 ht) (v16 hu)] at h
theorem s_Most {t u : Nat → Int} (ht : Mon t) (hu : Mon u) (w : World) : Calls Try.prog 47 #[.string (txt 16 t), .string (txt 16 u)] w fun e w' => e = .returned (.tuple #[.string (txt 16 (mostT t u)), .bool true]) ∧ w = w' := by
  have h := spec_BeforeMost (txt 16 t) (txt 16 u) w (sz16 t) (sz16 u)
  rwa [ht.tr, hu.tr, Bool.true_and, orNone_true, ((v16 ht).most (v16 hu)).txt] at h
theorem m_dcThen {t u : Nat → Int} (ht : Mon t) (hu : Mon u) (w : World) : Calls Try.prog 17 #[.string (txt 16 t), .string (txt 16 u)] w fun e w' => e = .returned (.string (txt 16 (thenT t u))) ∧ Below w.heap.size w w' := by
  have h := impl_ThenTrans (txt 16 t) (txt 16 u) (sz16 t) (sz16 u) w
  rw [ht.tr, hu.tr, Bool.true_and, orNone_true, ((v16 ht).then (v16 hu) hu.ok).txt] at h
  go_enter Try.func17, Try.ntmps17
  go_wp2_with fail
  refine (h).mono ?_
  rintro e w1 ⟨rfl, hb1⟩
  go_wp2_with fail
  go_ret
  exact ⟨rfl, hb1⟩
theorem m_dcMeet {t u : Nat → Int} (ht : Mon t) (hu : Mon u) (w : World) : Calls Try.prog 30 #[.string (txt 16 t), .string (txt 16 u)] w fun e w' => e = .returned (.string (txt 16 (meetT t u))) ∧ Below w.heap.size w w' := by
  have h := impl_MeetTrans (txt 16 t) (txt 16 u) (sz16 t) (sz16 u) w
  rw [ht.tr, hu.tr, Bool.true_and, orNone_true, ((v16 ht).meet (v16 hu)).txt] at h
  go_enter Try.func30, Try.ntmps30
  go_wp2_with fail
  refine (h).mono ?_
  rintro e w1 ⟨rfl, hb1⟩
  go_wp2_with fail
  go_ret
  exact ⟨rfl, hb1⟩
theorem m_dcJoin {t u : Nat → Int} (ht : Mon t) (hu : Mon u) (w : World) : Calls Try.prog 31 #[.string (txt 16 t), .string (txt 16 u)] w fun e w' => e = .returned (.string (txt 16 (joinT t u))) ∧ Below w.heap.size w w' := by
  have h := impl_JoinTrans (txt 16 t) (txt 16 u) (sz16 t) (sz16 u) w
  rw [ht.tr, hu.tr, Bool.true_and, orNone_true, ((v16 ht).join (v16 hu)).txt] at h
  go_enter Try.func31, Try.ntmps31
  go_wp2_with fail
  refine (h).mono ?_
  rintro e w1 ⟨rfl, hb1⟩
  go_wp2_with fail
  go_ret
  exact ⟨rfl, hb1⟩
theorem m_dcDual {t : Nat → Int} (ht : Mon t) (w : World) : Calls Try.prog 35 #[.string (txt 16 t)] w fun e w' => e = .returned (.string (txt 16 (dualT t))) ∧ Below w.heap.size w w' := by
  have h := impl_DualTrans (txt 16 t) (sz16 t) w
  rw [ht.tr, orNone_true, ((v16 ht).dual).txt] at h
  go_enter Try.func35, Try.ntmps35
  go_wp2_with fail
  refine (h).mono ?_
  rintro e w1 ⟨rfl, hb1⟩
  go_wp2_with fail
  go_ret
  exact ⟨rfl, hb1⟩
theorem m_Angel {r : Nat → Int} (hr : Cond r) (w : World) : Calls Try.prog 16 #[.string (txt 4 r)] w fun e w' => e = .returned (.tuple #[.string (txt 16 (angelT r)), .bool true]) ∧ Below w.heap.size w w' := by
  have h := impl_AngelTrans (txt 4 r) (sz4 r) w
  rwa [okTxt_txt 4 r hr, orNone_true, (angel_v4 hr).txt] at h
theorem m_Demon {r : Nat → Int} (hr : Cond r) (w : World) : Calls Try.prog 15 #[.string (txt 4 r)] w fun e w' => e = .returned (.tuple #[.string (txt 16 (demonT r)), .bool true]) ∧ Below w.heap.size w w' := by
  have h := impl_DemonTrans (txt 4 r) (sz4 r) w
  rwa [okTxt_txt 4 r hr, orNone_true, (demon_v4 hr).txt] at h
theorem conc_v {r t : Nat → Int} (hr : Cond r) (ht : Mon t) : Eq16 (concT (val (txt 4 r)) (val (txt 16 t))) (concT r t) := (angel_v4 hr).least ((angel_v4 hr).then (v16 ht) ht.ok)
theorem Mon.conc {r t : Nat → Int} (hr : Cond r) (ht : Mon t) : Mon (concT r t) := Mon.least (angelT_ok r) (thenT_ok (angelT_ok r) t)
theorem m_CLeast {r t : Nat → Int} (hr : Cond r) (ht : Mon t) (w : World) : Calls Try.prog 28 #[.string (txt 4 r), .string (txt 16 t)] w fun e w' => e = .returned (.tuple #[.string (txt 16 (concT r t)), .bool true]) ∧ Below w.heap.size w w' := by
  have h := impl_ConcreteLeast (txt 4 r) (txt 16 t) (sz4 r) (sz16 t) w
  rwa [okTxt_txt 4 r hr, ht.tr, Bool.true_and, orNone_true, (conc_v hr ht).txt] at h
theorem s_CLeast {r t : Nat → Int} (hr : Cond r) (ht : Mon t) (w : World) : Calls Try.prog 34 #[.string (txt 4 r), .string (txt 16 t)] w fun e w' => e = .returned (.tuple #[.string (txt 16 (concT r t)), .bool true]) ∧ w = w' := by
  have h := spec_ConcreteLeast (txt 4 r) (txt 16 t) w (sz4 r) (sz16 t)
  rwa [okTxt_txt 4 r hr, ht.tr, Bool.true_and, orNone_true, (show Eq16 (leastT (angelT (val (txt 4 r))) (thenT (angelT (val (txt 4 r))) (val (txt 16 t)))) (concT r t) from conc_v hr ht).txt] at h
theorem abs_v {r u : Nat → Int} (hr : Cond r) (hu : Mon u) : Eq16 (absT (val (txt 4 r)) (val (txt 16 u))) (absT r u) :=
  Eq16.most (demon_turn_v4 hr) (Eq16.then (demon_turn_v4 hr) (v16 hu) hu.ok)
theorem m_AMost {r t : Nat → Int} (hr : Cond r) (ht : Mon t) (w : World) : Calls Try.prog 24 #[.string (txt 4 r), .string (txt 16 t)] w fun e w' => e = .returned (.tuple #[.string (txt 16 (absT r t)), .bool true]) ∧ Below w.heap.size w w' := by
  have h := impl_AbstractMost (txt 4 r) (txt 16 t) (sz4 r) (sz16 t) w
  rwa [okTxt_txt 4 r hr, ht.tr, Bool.true_and, orNone_true, (abs_v hr ht).txt] at h
theorem s_AMost {r t : Nat → Int} (hr : Cond r) (ht : Mon t) (w : World) : Calls Try.prog 25 #[.string (txt 4 r), .string (txt 16 t)] w fun e w' => e = .returned (.tuple #[.string (txt 16 (absT r t)), .bool true]) ∧ w = w' := by
  have h := spec_AbstractMost (txt 4 r) (txt 16 t) w (sz4 r) (sz16 t)
  rwa [okTxt_txt 4 r hr, ht.tr, Bool.true_and, orNone_true, (abs_v hr ht).txt] at h
theorem m_Fwd {r t u : Nat → Int} (hr : Cond r) (ht : Mon t) (hu : Mon u) (w : World) : Calls Try.prog 27 #[.string (txt 4 r), .string (txt 16 t), .string (txt 16 u)] w fun e w' => e = .returned (.bool (fwdT r t u)) ∧ Below w.heap.size w w' := by
  have h := impl_SimulatesForward (txt 4 r) (txt 16 t) (txt 16 u) (sz4 r) (sz16 t) (sz16 u) w
  rwa [okTxt_txt 4 r hr, ht.tr, hu.tr, Bool.true_and, Bool.true_and, Bool.true_and, Eq16.fwd (angel_v4 hr) (v16 ht) (v16 hu) ht.ok] at h
theorem s_Fwd {r t u : Nat → Int} (hr : Cond r) (ht : Mon t) (hu : Mon u) (w : World) : Calls Try.prog 29 #[.string (txt 4 r), .string (txt 16 t), .string (txt 16 u)] w fun e w' => e = .returned (.bool (fwdT r t u)) ∧ w = w' := by
  have h := spec_SimulatesForward (txt 4 r) (txt 16 t) (txt 16 u) w (sz4 r) (sz16 t) (sz16 u)
  rwa [okTxt_txt 4 r hr, ht.tr, hu.tr, Bool.true_and, Bool.true_and, Bool.true_and, Eq16.fwd (angel_v4 hr) (v16 ht) (v16 hu) ht.ok] at h
theorem m_Bwd {r t u : Nat → Int} (hr : Cond r) (ht : Mon t) (hu : Mon u) (w : World) : Calls Try.prog 20 #[.string (txt 4 r), .string (txt 16 t), .string (txt 16 u)] w fun e w' => e = .returned (.bool (bwdT r t u)) ∧ Below w.heap.size w w' := by
  have h := impl_SimulatesBackward (txt 4 r) (txt 16 t) (txt 16 u) (sz4 r) (sz16 t) (sz16 u) w
  rwa [okTxt_txt 4 r hr, ht.tr, hu.tr, Bool.true_and, Bool.true_and, Bool.true_and, Eq16.bwd (demon_turn_v4 hr) (v16 ht) (v16 hu) hu.ok] at h
theorem s_Bwd {r t u : Nat → Int} (hr : Cond r) (ht : Mon t) (hu : Mon u) (w : World) : Calls Try.prog 21 #[.string (txt 4 r), .string (txt 16 t), .string (txt 16 u)] w fun e w' => e = .returned (.bool (bwdT r t u)) ∧ w = w' := by
  have h := spec_SimulatesBackward (txt 4 r) (txt 16 t) (txt 16 u) w (sz4 r) (sz16 t) (sz16 u)
  rwa [okTxt_txt 4 r hr, ht.tr, hu.tr, Bool.true_and, Bool.true_and, Bool.true_and, Eq16.bwd (demon_turn_v4 hr) (v16 ht) (v16 hu) hu.ok] at h
theorem m_Conc {r : Nat → Int} (hr : Cond r) {p : Int} (hp : C p) (w : World) : Calls Try.prog 39 #[.string (txt 4 r), .int .i64 p] w fun e w' => e = .returned (.int .i64 (dia r p)) ∧ Below w.heap.size w w' := by
  have h := impl_ConcreteCondition (txt 4 r) p (sz4 r) w
  rwa [okTxt_txt 4 r hr, isC_mk hp, Bool.true_and, orMinus_true, diaP_congr (v4 hr)] at h
theorem m_Abs {r : Nat → Int} (hr : Cond r) {p : Int} (hp : C p) (w : World) : Calls Try.prog 40 #[.string (txt 4 r), .int .i64 p] w fun e w' => e = .returned (.int .i64 (box (turn r) p)) ∧ Below w.heap.size w w' := by
  have h := impl_AbstractCondition (txt 4 r) p (sz4 r) w
  rwa [okTxt_txt 4 r hr, isC_mk hp, Bool.true_and, orMinus_true, boxP_congr (turn_v4 hr)] at h
theorem isFn_congr {r q : Nat → Int} (h : ∀ k, k < 4 → r k = q k) : isFn r = isFn q := by
  have e : List.range 4 = [0, 1, 2, 3] := rfl
  unfold isFn; rw [e]
  simp only [List.all_cons, List.all_nil, h 0 (by decide), h 1 (by decide), h 2 (by decide), h 3 (by decide)]
theorem m_IsFn {r : Nat → Int} (hr : Cond r) (w : World) : Calls Try.prog 13 #[.string (txt 4 r)] w fun e w' => e = .returned (.bool (isFn r)) ∧ Below w.heap.size w w' := by
  have h := impl_IsFunction (txt 4 r) (sz4 r) w
  rwa [okTxt_txt 4 r hr, Bool.true_and, isFn_congr (v4 hr)] at h
end Go.Proofs.Ytfeaeabhnkehcaa
