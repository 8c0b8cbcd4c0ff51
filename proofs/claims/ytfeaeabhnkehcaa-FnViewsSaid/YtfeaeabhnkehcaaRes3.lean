/- Plain laws of undoing. No program in sight. -/
import Derived.Test.YtfeaeabhnkehcaaIm13
import Derived.Test.YtfeaeabhnkehcaaCanon
namespace Go.Proofs.Ytfeaeabhnkehcaa
set_option linter.unusedVariables false
set_option linter.unusedSimpArgs false
open Go.RowKit

theorem orAt_nat {t : Nat → Int} (h : orAll (orAt t) = true) {p q : Nat} (hp : p < 16) (hq : q < 16) : t (bits .or .i64 (p : Int) (q : Int)).toNat = bits .or .i64 (t p) (t q) := by
  have := orAll_at h hp hq
  simpa [orAt] using this
theorem orAt_int {t : Nat → Int} (h : orAll (orAt t) = true) {p q : Int} (hp : C p) (hq : C q) : t (bits .or .i64 p q).toNat = bits .or .i64 (t p.toNat) (t q.toNat) := by
  have := orAt_nat h (lt16 hp) (lt16 hq)
  rwa [toNat_cast hp, toNat_cast hq] at this
theorem sh_toNat {u : Nat} (h : u < 4) : (sh u).toNat = 2 ^ u := by rw [sh_eq (by omega)]; exact Int.toNat_natCast _
theorem mk_le {b : Nat → Bool} {k : Nat} (hk : k ≤ 4) : C (mk b k) := (fit_mono (fit_mk (by omega)) hk).c
theorem has_add {t : Nat → Int} (ht : Cond t) (h : orAll (orAt t) = true) (h0 : t 0 = 0) (b : Nat → Bool) (s : Nat) : ∀ k, k ≤ 4 → (has (t (mk b k).toNat) s = true ↔ ∃ u, u < k ∧ b u = true ∧ has (t (2 ^ u)) s = true) := by
  intro k hk
  induction k with
  | zero =>
    have e : mk b 0 = 0 := rfl
    rw [e]
    simp [h0, has_zero]
  | succ k ih =>
    have h1 := ih (by omega)
    cases hb : b k
    · have e : mk b (k + 1) = mk b k := by simp [mk, orf, hb]
      rw [e, h1]
      constructor
      · rintro ⟨u, hu, a, c⟩; exact ⟨u, by omega, a, c⟩
      · rintro ⟨u, hu, a, c⟩
        have : u ≠ k := fun e => by rw [e, hb] at a; cases a
        exact ⟨u, by omega, a, c⟩
    · have e : mk b (k + 1) = bits .or .i64 (mk b k) (sh k) := by simp [mk, orf, hb]
      have hs : C (sh k) := (fit_sh (n := 4) (by decide) (by omega)).c
      rw [e, orAt_int h (mk_le (by omega)) hs, has_or (C.fit16 (ht _)) (C.fit16 (ht _)), Bool.or_eq_true, h1, sh_toNat (by omega)]
      constructor
      · rintro (⟨u, hu, a, c⟩ | c)
        · exact ⟨u, by omega, a, c⟩
        · exact ⟨k, by omega, hb, c⟩
      · rintro ⟨u, hu, a, c⟩
        by_cases e : u = k
        · subst e; exact .inr c
        · exact .inl ⟨u, by omega, a, c⟩
theorem mk_has {p : Int} (hp : C p) : mk (has p) 4 = p := C.ext C.mk hp fun i hi => by rw [has_mk _ (by decide)]; simp [hi]
theorem has_relT {t : Nat → Int} {s u : Nat} (hu : u < 4) : has (relT t s) u = has (t (2 ^ u)) s := by unfold relT; rw [has_mk _ (by decide)]; simp [hu]
theorem rel_angel {t : Nat → Int} (ht : Cond t) (h : isRelT t = true) : Eq16 t (angelT (relT t)) := fun p hp => by
  have hh : orAll (orAt t) = true ∧ t 0 = 0 := by simpa [isRelT] using h
  refine C.ext (ht p) (dia_ok _ _) fun s hs => ?_
  have h1 := has_add ht hh.1 hh.2 (has (p : Int)) s 4 (by decide)
  rw [mk_has (c_nat hp)] at h1
  simp only [Int.toNat_natCast] at h1
  rw [Bool.eq_iff_iff, h1]
  show _ ↔ has (dia (relT t) p) s = true
  rw [has_dia (relT_ok t) (c_nat hp) hs]
  constructor
  · rintro ⟨u, hu, a, c⟩; exact ⟨u, hu, by rw [has_relT hu]; exact c, a⟩
  · rintro ⟨u, hu, c, a⟩; exact ⟨u, hu, a, by rw [has_relT hu] at c; exact c⟩
theorem bit_has {p : Int} (hp : C p) (k : Nat) : bits .and .i64 (p / 2 ^ k) 1 = ((has p k).toNat : Int) := by
  obtain ⟨a, rfl, ha⟩ := fit_nat hp.fit16
  have e : ((a : Int) / 2 ^ k) = ((a / 2 ^ k : Nat) : Int) := by push_cast; rfl
  have h2 : bits .and .i64 ((a : Int) / 2 ^ k) 1 = ((a / 2 ^ k &&& 1 : Nat) : Int) := by
    rw [e]; exact and_nat _ 1 (Nat.lt_of_le_of_lt (Nat.div_le_self _ _) ha) (by decide)
  have h3 : a / 2 ^ k &&& 1 ≤ 1 := Nat.and_le_right
  unfold has
  rw [h2]
  obtain h | h : a / 2 ^ k &&& 1 = 0 ∨ a / 2 ^ k &&& 1 = 1 := by omega
  all_goals simp [h]
theorem ones_has {p : Int} (hp : C p) : ones p 4 = (((has p 0).toNat + (has p 1).toNat + (has p 2).toNat + (has p 3).toNat : Nat) : Int) := by
  simp only [ones, bit_has hp]
  push_cast; omega
theorem four_iff {p : Int} {u : Nat} (h0 : has p 0 = true ↔ 0 = u) (h1 : has p 1 = true ↔ 1 = u) (h2 : has p 2 = true ↔ 2 = u) (h3 : has p 3 = true ↔ 3 = u) : ∀ v, v < 4 → (has p v = true ↔ v = u) := by
  intro v hv
  obtain rfl | rfl | rfl | rfl : v = 0 ∨ v = 1 ∨ v = 2 ∨ v = 3 := by omega
  all_goals assumption
theorem pow_lt16 {u : Nat} (h : u < 4) : 2 ^ u < 16 := Nat.pow_lt_pow_right (m := u) (n := 4) (by decide) h
/-- a condition with one state alone -/
theorem one_state {p : Int} (hp : C p) (h : ones p 4 = 1) : ∃ u, u < 4 ∧ ∀ v, v < 4 → (has p v = true ↔ v = u) := by
  rw [ones_has hp] at h
  have h' : (has p 0).toNat + (has p 1).toNat + (has p 2).toNat + (has p 3).toNat = 1 := by omega
  revert h'
  cases h0 : has p 0 <;> cases h1 : has p 1 <;> cases h2 : has p 2 <;> cases h3 : has p 3 <;> intro h' <;> simp at h'
  all_goals first
    | (refine ⟨0, by decide, four_iff ?_ ?_ ?_ ?_⟩ <;> simp [*]; done)
    | (refine ⟨1, by decide, four_iff ?_ ?_ ?_ ?_⟩ <;> simp [*]; done)
    | (refine ⟨2, by decide, four_iff ?_ ?_ ?_ ?_⟩ <;> simp [*]; done)
    | (refine ⟨3, by decide, four_iff ?_ ?_ ?_ ?_⟩ <;> simp [*]; done)
theorem fn_at {r : Nat → Int} (h : isFn r = true) {s : Nat} (hs : s < 4) : ones (r s) 4 = 1 := by
  simp only [isFn, List.all_eq_true, List.mem_range, beq_iff_eq] at h; exact h s hs
theorem fn_dia {r : Nat → Int} (hr : Cond r) (h : isFn r = true) {p : Int} (hp : C p) : dia r p = box r p := C.ext (dia_ok _ _) (box_ok _ _) fun s hs => by
  obtain ⟨u, hu, hv⟩ := one_state (hr s) (fn_at h hs)
  rw [Bool.eq_iff_iff, has_dia hr hp hs, has_box hr hp hs]
  constructor
  · rintro ⟨j, hj, a, c⟩ i hi hx
    rw [(hv i hi).1 hx, ← (hv j hj).1 a]; exact c
  · intro h; exact ⟨u, hu, (hv u hu).2 rfl, h u hu ((hv u hu).2 rfl)⟩
theorem undo_most {t r : Nat → Int} (ht : Mon t) (hr : Cond r) (e : Eq16 t (angelT r)) (h : isFn r = true) : Eq16 (mostT t skipT) (angelT (turn r)) := fun p hp => by
  have te : ∀ k : Nat, k < 16 → t k = box r (k : Int) := fun k hk => by rw [e k hk]; exact fn_dia hr h (c_nat hk)
  refine Sub.antisymm (mostT_ok skipT_ok p) (dia_ok _ _) ?_ ?_
  · have hd := dia_ok (turn r) (p : Int)
    have h1 := (sub_most (x := mostT t skipT p) ht.ok skipT_ok hp).1 (Sub.refl _) (dia (turn r) (p : Int)).toNat (lt16 hd) (by
      rw [te _ (lt16 hd), toNat_cast hd]
      exact (gal' hr (c_nat hp) hd).1 (Sub.refl _))
    rwa [skipT_c hd] at h1
  · refine (sub_most ht.ok skipT_ok hp).2 fun k hk s => ?_
    rw [skipT_at hk]
    rw [te k hk] at s
    exact (gal' hr (c_nat hp) (c_nat hk)).2 s
theorem undo_demon {r : Nat → Int} (h : isFn (turn r) = true) : Eq16 (angelT (turn r)) (demonT (turn r)) := fun p hp => fn_dia (turn_ok r) h (c_nat hp)
theorem undo_then {t r : Nat → Int} (ht : Mon t) (hr : Cond r) (e : Eq16 t (angelT r)) (h : isFn r = true) (h2 : isFn (turn r) = true) : Eq16 (thenT (mostT t skipT) t) skipT := fun p hp => by
  have hd := dia_ok r (p : Int)
  have e1 : thenT (mostT t skipT) t p = dia (turn r) (dia r (p : Int)) := by
    rw [then_at, e p hp]
    show mostT t skipT (dia r (p : Int)).toNat = _
    rw [undo_most ht hr e h _ (lt16 hd)]
    unfold angelT; rw [toNat_cast hd]
  rw [e1, skipT_at hp]
  refine Sub.antisymm (dia_ok _ _) (c_nat hp) ?_ ?_
  · rw [fn_dia hr h (c_nat hp)]; exact (gal' hr (box_ok _ _) (c_nat hp)).2 (Sub.refl _)
  · rw [fn_dia (turn_ok r) h2 hd]; exact (gal hr (c_nat hp) hd).1 (Sub.refl _)
theorem undo_then2 {t r : Nat → Int} (ht : Mon t) (hr : Cond r) (e : Eq16 t (angelT r)) (h : isFn r = true) (h2 : isFn (turn r) = true) : Eq16 (thenT t (mostT t skipT)) skipT := fun p hp => by
  have hd := dia_ok (turn r) (p : Int)
  have e1 : thenT t (mostT t skipT) p = dia r (dia (turn r) (p : Int)) := by
    rw [then_at, undo_most ht hr e h p hp]
    show t (dia (turn r) (p : Int)).toNat = _
    rw [e _ (lt16 hd)]
    unfold angelT; rw [toNat_cast hd]
  rw [e1, skipT_at hp]
  refine Sub.antisymm (dia_ok _ _) (c_nat hp) ?_ ?_
  · rw [fn_dia (turn_ok r) h2 (c_nat hp)]; exact (gal hr (box_ok _ _) (c_nat hp)).2 (Sub.refl _)
  · rw [fn_dia hr h hd]; exact (gal' hr (c_nat hp) hd).1 (Sub.refl _)
theorem undo_ref {t : Nat → Int} (ht : Mon t) : refT (thenT (mostT t skipT) t) skipT = true := law_most_self ht Mon.skip
theorem undo_ref2 {t : Nat → Int} (ht : Mon t) : refT (thenT (thenT (mostT t skipT) t) (mostT t skipT)) (mostT t skipT) = true := by
  have hx := Mon.most ht.ok skipT_ok
  have h1 := ref_then (u := mostT t skipT) (thenT_ok hx.ok t) skipT_ok hx.ok (undo_ref ht)
  rw [Eq16.ref (Eq16.refl _) (skip_then hx.ok)] at h1
  exact h1

/-! ### contracts at texts of tables -/
open Go.Shelf
set_option maxRecDepth 100000
set_option maxHeartbeats 1000000
theorem spec_UndoOf (t : ByteArray) (w : World) (ht : t.size ≤ 4611686018427387904) :
    Calls Try.prog 11 #[.string t] w fun e w' => e = .returned (.tuple #[.string (orNone (okTr t) (txt 16 (mostT (val t) skipT))), .bool (okTr t)]) ∧ w = w' := by
  have hs : txt 16 (assertT 15) = txt 16 skipT := ass_all.txt
  have h1 : okTr (txt 16 skipT) = true := Mon.skip.tr
  have h2 : txt 16 (mostT (val t) (val (txt 16 skipT))) = txt 16 (mostT (val t) skipT) := ((Eq16.refl _).most (eq16_txt skipT_ok)).txt
  go_enter Try.func11, Try.ntmps11
  go_wp2_with fail
  refine (spec_l3Assert 15 (by decide) _).mono ?_
  rintro e w' ⟨rfl, rfl⟩
  rw [show ((15 : Nat) : Int) = 15 from rfl, hs]
  go_wp2_with fail
  refine (spec_BeforeMost _ _ _ ht (by rw [txt_size]; decide)).mono ?_
  rintro e w' ⟨rfl, rfl⟩
  rw [h1, h2, Bool.and_true]
  go_wp2_with fail
  go_ret2
  exact ⟨rfl, rfl⟩

theorem m_Turn {r : Nat → Int} (hr : Cond r) (w : World) : Calls Try.prog 14 #[.string (txt 4 r)] w fun e w' => e = .returned (.tuple #[.string (txt 4 (turn r)), .bool true]) ∧ Below w.heap.size w w' := by
  have h := impl_TurnRel (txt 4 r) (sz4 r) w
  rwa [okTxt_txt 4 r hr, orNone_true, txt_ext (turn_v4 hr)] at h
theorem m_Undo {t : Nat → Int} (ht : Mon t) (w : World) : Calls Try.prog 10 #[.string (txt 16 t)] w fun e w' => e = .returned (.tuple #[.string (txt 16 (mostT t skipT)), .bool true]) ∧ Below w.heap.size w w' := by
  have h := impl_UndoOf (txt 16 t) (sz16 t) w
  rwa [ht.tr, orNone_true, ((v16 ht).most (Eq16.refl _)).txt] at h
theorem s_Undo {t : Nat → Int} (ht : Mon t) (w : World) : Calls Try.prog 11 #[.string (txt 16 t)] w fun e w' => e = .returned (.tuple #[.string (txt 16 (mostT t skipT)), .bool true]) ∧ w = w' := by
  have h := spec_UndoOf (txt 16 t) w (sz16 t)
  rwa [ht.tr, orNone_true, ((v16 ht).most (Eq16.refl _)).txt] at h
theorem orAt_congr {t u : Nat → Int} (e : Eq16 t u) : orAll (orAt t) = orAll (orAt u) := by
  have h : ∀ p, p < 16 → ∀ q, q < 16 → orAt t p q = orAt u p q := fun p hp q hq => by
    unfold orAt; rw [e p hp, e q hq, e _ (lt16 (C.or (c_nat hp) (c_nat hq)))]
  rw [Bool.eq_iff_iff]
  exact ⟨fun a => orAll_of fun p hp q hq => by rw [← h p hp q hq]; exact orAll_at a hp hq, fun a => orAll_of fun p hp q hq => by rw [h p hp q hq]; exact orAll_at a hp hq⟩
theorem m_AngelRel {t : Nat → Int} (ht : Mon t) (w : World) : Calls Try.prog 12 #[.string (txt 16 t)] w fun e w' => e = .returned (.tuple #[.string (orNone (isRelT t) (txt 4 (relT t))), .bool (isRelT t)]) ∧ Below w.heap.size w w' := by
  have h := impl_AngelRelOf (txt 16 t) (sz16 t) w
  have e := v16 ht
  have e1 : isRelT (val (txt 16 t)) = isRelT t := by unfold isRelT; rw [orAt_congr e, e 0 (by decide)]
  have e2 : txt 4 (relT (val (txt 16 t))) = txt 4 (relT t) := txt_ext fun s _ => by
    unfold relT; exact mk_congr fun u hu => by rw [e _ (pow_lt16 hu)]
  rwa [ht.tr, Bool.true_and, e1, e2] at h
end Go.Proofs.Ytfeaeabhnkehcaa
