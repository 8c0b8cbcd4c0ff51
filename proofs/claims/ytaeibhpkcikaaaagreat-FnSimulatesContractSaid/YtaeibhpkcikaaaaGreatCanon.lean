/- Contracts at texts of tables: the program's functions and the statements' own helpers. -/
import Derived.Test.YtaeibhpkcikaaaaGreatGI
import Derived.Test.YtaeibhpkcikaaaaGreatGH
namespace Go.Proofs.YtaeibhpkcikaaaaGreat
set_option linter.unusedVariables false
set_option linter.unusedSimpArgs false
open Go.RowKit Go.Shelf
set_option maxRecDepth 100000
set_option maxHeartbeats 1000000

theorem IsRow.keep {k : IntKind} {w w' : World} {a : Option Addr} {len cap : Nat} {zs : List Int} (h : IsRow k w a len cap zs) (hb : Below w.heap.size w w') : IsRow k w' a len cap zs := by
  rcases h with h | ⟨x, rfl, hl, hm, hz, hc, hw⟩
  · exact .inl h
  · exact .inr ⟨x, rfl, hl, hm, hz, fun i hi => cell_grown (hc i hi) hb, hw⟩
theorem v16 {t : Nat → Int} (ht : Mon t) : Eq16 (val (txt 16 t)) t := eq16_txt ht.ok
theorem v4 {r : Nat → Int} (hr : Cond r) : ∀ k, k < 4 → val (txt 4 r) k = r k := fun k hk => eq4_txt hr k hk
theorem sz16 (t : Nat → Int) : (txt 16 t).size ≤ 4611686018427387904 := by rw [txt_size]; decide
theorem sz4 (t : Nat → Int) : (txt 4 t).size ≤ 4611686018427387904 := by rw [txt_size]; decide
/-- a text of a transformer is that of a monotone table -/
theorem tr_of {s : ByteArray} (h : okTr s = true) : ∃ t, Mon t ∧ s = txt 16 t := ⟨val s, mon_val h, (txt_val (okTr_txt h)).symm⟩
theorem rel_of {s : ByteArray} (h : okTxt 4 s = true) : ∃ t, Cond t ∧ s = txt 4 t := ⟨val s, val_ok s, (txt_val h).symm⟩
theorem tr_size {s : ByteArray} (h : s.size ≤ 20) : s.size ≤ 4611686018427387904 := by omega
theorem orNone_true (s : ByteArray) : orNone true s = s := rfl
theorem orMinus_true (s : Int) : orMinus true s = s := rfl
theorem skip_txt : txt 16 skipT = hexes := by decide +kernel
theorem turn_v4 {r : Nat → Int} (hr : Cond r) : ∀ k, k < 4 → turn (val (txt 4 r)) k = turn r k := fun k _ => by
  unfold turn; exact mk_congr fun t ht => by rw [v4 hr t ht]
theorem angel_v4 {r : Nat → Int} (hr : Cond r) : Eq16 (angelT (val (txt 4 r))) (angelT r) := eq16_angel (v4 hr)
theorem demon_v4 {r : Nat → Int} (hr : Cond r) : Eq16 (demonT (val (txt 4 r))) (demonT r) := eq16_demon (v4 hr)
theorem angel_turn_v4 {r : Nat → Int} (hr : Cond r) : Eq16 (angelT (turn (val (txt 4 r)))) (angelT (turn r)) := eq16_angel (turn_v4 hr)
theorem demon_turn_v4 {r : Nat → Int} (hr : Cond r) : Eq16 (demonT (turn (val (txt 4 r)))) (demonT (turn r)) := eq16_demon (turn_v4 hr)
theorem Eq16.fwd {r r' t t' u u' : Nat → Int} (a : Eq16 (angelT r) (angelT r')) (b : Eq16 t t') (c : Eq16 u u') (ht : Cond t') : fwdT r t u = fwdT r' t' u' :=
  Eq16.ref (a.then b ht) (c.then a (angelT_ok r'))
theorem Eq16.bwd {r r' t t' u u' : Nat → Int} (a : Eq16 (wayT r) (wayT r')) (b : Eq16 t t') (c : Eq16 u u') (hu : Cond u') : bwdT r t u = bwdT r' t' u' :=
  Eq16.ref (b.then a (wayT_ok r')) (a.then c hu)

theorem conc_v {r t : Nat → Int} (hr : Cond r) (ht : Mon t) : Eq16 (concT (val (txt 4 r)) (val (txt 16 t))) (concT r t) := (angel_v4 hr).least ((angel_v4 hr).then (v16 ht) ht.ok)
theorem Mon.conc {r t : Nat → Int} (hr : Cond r) (ht : Mon t) : Mon (concT r t) := Mon.least (angelT_ok r) (thenT_ok (angelT_ok r) t)
theorem abs_v {r u : Nat → Int} (hr : Cond r) (hu : Mon u) : Eq16 (absT (val (txt 4 r)) (val (txt 16 u))) (absT r u) :=
  Eq16.most (demon_turn_v4 hr) (Eq16.then (demon_turn_v4 hr) (v16 hu) hu.ok)
theorem m_Fwd {r t u : Nat → Int} (hr : Cond r) (ht : Mon t) (hu : Mon u) (w : World) : Calls Tryz.prog 13 #[.string (txt 4 r), .string (txt 16 t), .string (txt 16 u)] w fun e w' => e = .returned (.bool (fwdT r t u)) ∧ Below w.heap.size w w' := by
  have h := impl_SimulatesForward (txt 4 r) (txt 16 t) (txt 16 u) (sz4 r) (sz16 t) (sz16 u) w
  rwa [okTxt_txt 4 r hr, ht.tr, hu.tr, Bool.true_and, Bool.true_and, Bool.true_and, Eq16.fwd (angel_v4 hr) (v16 ht) (v16 hu) ht.ok] at h
theorem s_Fwd {r t u : Nat → Int} (hr : Cond r) (ht : Mon t) (hu : Mon u) (w : World) : Calls Tryz.prog 25 #[.string (txt 4 r), .string (txt 16 t), .string (txt 16 u)] w fun e w' => e = .returned (.bool (fwdT r t u)) ∧ w = w' := by
  have h := spec_SimulatesForward (txt 4 r) (txt 16 t) (txt 16 u) w (sz4 r) (sz16 t) (sz16 u)
  rwa [okTxt_txt 4 r hr, ht.tr, hu.tr, Bool.true_and, Bool.true_and, Bool.true_and, Eq16.fwd (angel_v4 hr) (v16 ht) (v16 hu) ht.ok] at h
theorem m_Conc {r : Nat → Int} (hr : Cond r) {p : Int} (hp : C p) (w : World) : Calls Tryz.prog 10 #[.string (txt 4 r), .int .i64 p] w fun e w' => e = .returned (.int .i64 (dia r p)) ∧ Below w.heap.size w w' := by
  have h := impl_ConcreteCondition (txt 4 r) p (sz4 r) w
  rwa [okTxt_txt 4 r hr, isC_mk hp, Bool.true_and, orMinus_true, diaP_congr (v4 hr)] at h
theorem m_Implies {p q : Int} (hp : C p) (hq : C q) (w : World) : Calls Tryz.prog 9 #[.int .i64 p, .int .i64 q] w fun e w' => e = .returned (.bool (bits .andNot .i64 p q == 0)) ∧ w = w' := by
  have h := impl_Implies p q w
  rwa [isC_mk hp, isC_mk hq, Bool.true_and, Bool.true_and] at h
theorem isFn_congr {r q : Nat → Int} (h : ∀ k, k < 4 → r k = q k) : isFn r = isFn q := by
  have e : List.range 4 = [0, 1, 2, 3] := rfl
  unfold isFn; rw [e]
  simp only [List.all_cons, List.all_nil, h 0 (by decide), h 1 (by decide), h 2 (by decide), h 3 (by decide)]
end Go.Proofs.YtaeibhpkcikaaaaGreat
