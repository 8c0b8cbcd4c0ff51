/- Contracts made concrete by a view simulate the contract; by the view of each state for itself they are the contract. No program in sight. -/
import Derived.Test.YtaeibhpkcikaaaaGreatGF
import Derived.Test.YtaeibhpkcikaaaaGreatGE
import Derived.Test.YtaeibhpkcikaaaaGreatGI
namespace Go.Proofs.YtaeibhpkcikaaaaGreat
set_option linter.unusedVariables false
set_option linter.unusedSimpArgs false
open Go.RowKit

theorem skipC_at {q : Int} (hq : C q) : skipT q.toNat = q := by
  unfold skipT; rw [if_pos (lt16 hq), toNat_cast hq]
theorem fwd_skip {r : Nat → Int} (hr : Cond r) : fwdT r skipT skipT = true := by
  rw [fwd_sub hr Mon.skip Mon.skip]
  intro p hp
  rw [skipT_at hp, skipC_at (dia_ok r _)]; exact Sub.refl _
theorem fwd_ass {r : Nat → Int} (hr : Cond r) {p q : Int} (hp : C p) (hq : C q) (h : Sub (dia r p) q) : fwdT r (assT p) (assT q) = true := by
  rw [fwd_sub hr (Mon.ass hp) (Mon.ass hq)]
  intro k hk
  have hd := dia_ok r (k : Int)
  rw [assT_at hk, assT_at (lt16 hd), toNat_cast hd]
  intro i hi hh
  have h2 := dia_and hr hp (c_nat hk) i hi hh
  rw [has_and (dia_ok r _).fit16 hd.fit16, Bool.and_eq_true] at h2
  rw [has_and hq.fit16 hd.fit16, Bool.and_eq_true]
  exact ⟨h i hi h2.1, h2.2⟩
theorem fwd_magic {r : Nat → Int} (hr : Cond r) {t : Nat → Int} (ht : Mon t) : fwdT r t (assuT 0) = true := by
  rw [fwd_sub hr ht (Mon.assu C.zero)]
  intro k hk i hi _
  have hd := dia_ok r (k : Int)
  rw [assuT_at (lt16 hd), has_or (by rw [toNat_cast hd]; exact hd.fit16) (notp_ok C.zero).fit16, has_notp C.zero hi, has_zero]
  simp
theorem dia_zero {r : Nat → Int} (hr : Cond r) : dia r 0 = 0 := C.ext (dia_ok _ _) C.zero fun i hi => by
  rw [has_zero, Bool.eq_false_iff]
  intro h
  obtain ⟨j, _, _, h3⟩ := (has_dia hr C.zero hi).1 h
  rw [has_zero] at h3; cases h3
theorem stays_at {kn : Int} {q : Nat → Int} (hk : C kn) (hq : Cond q) (h : staysR kn q = true) {s t : Nat} (hs : s < 4) (ht : t < 4) (h1 : has kn s = true) (h2 : has (q s) t = true) : has kn t = true := by
  have h0 : bits .andNot .i64 (img q kn) kn = 0 := by simpa [staysR] using h
  have h3 : has (img q kn) t = true := (has_img hq).2 ⟨s, hs, h1, h2⟩
  have h4 := congrArg (fun p => has p t) h0
  simp only [has_zero] at h4
  rw [has_dif (img_ok hq _).fit16 hk.fit16, h3, Bool.true_and] at h4
  simpa using h4
theorem fwd_angel {r : Nat → Int} (hr : Cond r) {q : Nat → Int} (hq : Cond q) (h : staysR (img r 15) q = true) : fwdT r (angelT q) (angelT (comp (comp r q) (turn r))) = true := by
  have hc : Cond (comp (comp r q) (turn r)) := comp_ok (turn_ok r)
  rw [fwd_sub hr (Mon.angel hq) (Mon.angel hc)]
  intro p hp
  have hpc := c_nat hp
  have hd := dia_ok r (p : Int)
  rw [angel_at _ hd]
  show Sub (dia r (dia q (p : Int))) _
  intro s hs hh
  obtain ⟨u, hu, h1, h2⟩ := (has_dia hr (dia_ok q _) hs).1 hh
  obtain ⟨v, hv, h3, h4⟩ := (has_dia hq hpc hu).1 h2
  have hku : has (img r 15) u = true := (has_img hr).2 ⟨s, hs, has_15 hs, h1⟩
  have hkv := stays_at (img_ok hr _) hq h hu hv hku h3
  obtain ⟨x, hx, _, h6⟩ := (has_img hr).1 hkv
  rw [dia_comp (comp_ok hq) (turn_ok r) hd, dia_comp hr hq (dia_ok _ _), has_dia hr (dia_ok _ _) hs]
  refine ⟨u, hu, h1, ?_⟩
  rw [has_dia hq (dia_ok _ _) hu]
  refine ⟨v, hv, h3, ?_⟩
  rw [has_dia (turn_ok r) hd hv]
  refine ⟨x, hx, by rw [has_turn hx]; exact h6, ?_⟩
  rw [has_dia hr hpc hx]
  exact ⟨v, hv, h6, h4⟩
theorem dsF_map (f : Nat → Int) {k : Nat} (hk : k < 4) : dsF ((List.range 4).map f) k = f k := by
  unfold dsF
  obtain rfl | rfl | rfl | rfl : k = 0 ∨ k = 1 ∨ k = 2 ∨ k = 3 := by omega
  all_goals rfl
theorem concOp_cases {o : UInt8} (h : concOp o = true) : o = 115 ∨ o = 97 ∨ o = 109 ∨ o = 33 ∨ o = 65 ∨ o = 59 ∨ o = 38 ∨ o = 124 ∨ o = 42 ∨ o = 43 := by
  simpa [concOp, or_assoc] using h
theorem shp_parts {o : UInt8} {k n : Nat} (h : shp o = some (k, n)) : (k = 0 → o = 115 ∨ o = 97 ∨ o = 109 ∨ o = 33 ∨ o = 63 ∨ o = 65 ∨ o = 68) ∧ (k = 1 → o = 119 ∨ o = 42 ∨ o = 43) ∧ (k = 2 → o = 59 ∨ o = 38 ∨ o = 124 ∨ o = 105) := by
  unfold shp at h
  repeat' split at h
  all_goals first | (cases h; done) | (simp only [Option.some.injEq, Prod.mk.injEq] at h; obtain ⟨rfl, rfl⟩ := h; rename_i h1; refine ⟨?_, ?_, ?_⟩ <;> intro h2 <;> first | omega | (subst h1; simp) | (rcases h1 with rfl | rfl | rfl <;> simp) | (rcases h1 with rfl | rfl <;> simp))
/-- what is made concrete by a view simulates -/
theorem Ct.conc_fwd {r : Nat → Int} (hr : Cond r) : ∀ t : Ct, t.WF → t.knows concOp = true → t.fits r = true → fwdT r t.sem (t.conc r).sem = true
  | .n0 o d, h, hk, hf => by
    have hd := dsF_c h.2
    have hk' : concOp o = true := hk
    have hf' : fitsD r o d = true := hf
    rcases (shp_parts h.1).1 rfl with rfl | rfl | rfl | rfl | rfl | rfl | rfl
    · exact fwd_skip hr
    · exact fwd_ass hr C.zero C.zero (by rw [dia_zero hr]; exact Sub.refl _)
    · exact fwd_magic hr (Mon.assu C.zero)
    · exact fwd_ass hr (hd 0) (dia_ok r _) (Sub.refl _)
    · cases hk'
    · have hs : staysR (img r 15) (dsF d) = true := by simpa [fitsD] using hf'
      have h1 := fwd_angel hr hd hs
      have e : angelT (comp (comp r (dsF d)) (turn r)) = angelT (dsF ((List.range 4).map (concR r d))) := by
        funext k
        exact dia_congr (fun j hj => (dsF_map (concR r d) hj).symm) _
      rw [e] at h1
      exact h1
    · cases hk'
  | .n1 o d x, h, hk, hf => by
    have hk' : concOp o = true ∧ x.knows concOp = true := by simpa [knows] using hk
    have hf' : fitsD r o d = true ∧ x.fits r = true := by simpa [fits] using hf
    have ih := Ct.conc_fwd hr x h.2 hk'.2 hf'.2
    have hx := x.mon h.2
    have hy := (x.conc r).mon (x.conc_wf r h.2)
    rcases (shp_parts h.1.1).2.1 rfl with rfl | rfl | rfl
    · exact absurd hk'.1 (by decide)
    · exact fwd_omega hr hx hy ih
    · exact fwd_star hr hx hy ih
  | .n2 o d x y, h, hk, hf => by
    have hk' : concOp o = true ∧ x.knows concOp = true ∧ y.knows concOp = true := by simpa [knows] using hk
    have hf' : fitsD r o d = true ∧ x.fits r = true ∧ y.fits r = true := by simpa [fits] using hf
    have ix := Ct.conc_fwd hr x h.2.1 hk'.2.1 hf'.2.1
    have iy := Ct.conc_fwd hr y h.2.2 hk'.2.2 hf'.2.2
    have hx := x.mon h.2.1
    have hx2 := (x.conc r).mon (x.conc_wf r h.2.1)
    have hy := y.mon h.2.2
    have hy2 := (y.conc r).mon (y.conc_wf r h.2.2)
    rcases (shp_parts h.1.1).2.2 rfl with rfl | rfl | rfl | rfl
    · exact fwd_then hr hx hx2 hy hy2 ix iy
    · exact fwd_meet hr hx hx2 hy hy2 ix iy
    · exact fwd_join hr hx hx2 hy hy2 ix iy
    · exact absurd hk'.1 (by decide)
theorem Ct.conc_num (r : Nat → Int) : ∀ t : Ct, (t.conc r).num = t.num
  | .n0 _ _ => rfl
  | .n1 _ _ x => by simp only [conc, num, Ct.conc_num r x]
  | .n2 _ _ x y => by simp only [conc, num, Ct.conc_num r x, Ct.conc_num r y]
/-! ### the view of each state for itself -/
def selfT : ByteArray := ⟨#[49, 50, 52, 56]⟩
def selfR : Nat → Int := val selfT
theorem self_ok : okTxt 4 selfT = true := by decide +kernel
theorem self_c : Cond selfR := val_ok _
theorem self_fn : isFn selfR = true := by decide +kernel
theorem self_has : ∀ s j : _root_.Fin 4, has (selfR s.val) j.val = decide (s.val = j.val) := by decide +kernel
theorem self_at {s j : Nat} (hs : s < 4) (hj : j < 4) : has (selfR s) j = decide (s = j) := self_has ⟨s, hs⟩ ⟨j, hj⟩
theorem self_img : img selfR 15 = 15 := by decide +kernel
theorem self_dia {p : Int} (hp : C p) : dia selfR p = p := C.ext (dia_ok _ _) hp fun i hi => by
  rw [Bool.eq_iff_iff, has_dia self_c hp hi]
  constructor
  · rintro ⟨j, hj, h1, h2⟩
    rw [self_at hi hj] at h1
    obtain rfl : i = j := by simpa using h1
    exact h2
  · intro h; exact ⟨i, hi, by rw [self_at hi hi]; simp, h⟩
theorem self_comp {q : Nat → Int} (hq : Cond q) {s : Nat} (hs : s < 4) : comp (comp selfR q) (turn selfR) s = q s := by
  refine C.ext (img_ok (turn_ok _) _) (hq s) fun i hi => ?_
  have e1 : comp selfR q s = q s := by
    refine C.ext (img_ok hq _) (hq s) fun j hj => ?_
    show has (img q (selfR s)) j = _
    rw [Bool.eq_iff_iff, has_img hq]
    constructor
    · rintro ⟨k, hk, h1, h2⟩
      rw [self_at hs hk] at h1
      obtain rfl : s = k := by simpa using h1
      exact h2
    · intro h; exact ⟨s, hs, by rw [self_at hs hs]; simp, h⟩
  show has (img (turn selfR) (comp selfR q s)) i = _
  rw [e1, Bool.eq_iff_iff, has_img (turn_ok _)]
  constructor
  · rintro ⟨k, hk, h1, h2⟩
    rw [has_turn hi, self_at hi hk] at h2
    obtain rfl : i = k := by simpa using h2
    exact h1
  · intro h; exact ⟨i, hi, h, by rw [has_turn hi, self_at hi hi]; simp⟩
theorem fit_and15 {x : Int} (hx : C x) : bits .andNot .i64 x 15 = 0 := C.ext (hx.dif C.all) C.zero fun i hi => by
  rw [has_dif hx.fit16 C.all.fit16, has_15 hi, has_zero]; simp
theorem self_fitsD {o : UInt8} {d : List Int} (hd : Cond (dsF d)) : fitsD selfR o d = true := by
  unfold fitsD staysR
  rw [self_img, fit_and15 (img_ok hd _)]; simp
theorem list4 {d : List Int} (h : d.length = 4) : (List.range 4).map (dsF d) = d := by
  match d, h with
  | [a, b, c, e], _ => rfl
theorem self_concD {o : UInt8} {k : Nat} {d : List Int} (hs : shp o = some (k, d.length)) (hd : ∀ x ∈ d, C x) : concD selfR o d = d := by
  unfold concD
  by_cases h1 : o = 33
  · subst h1
    have hl : d.length = 1 := by
      have : shp 33 = some (0, 1) := rfl
      rw [this] at hs
      simp only [Option.some.injEq, Prod.mk.injEq] at hs; exact hs.2.symm
    match d, hl with
    | [a], _ =>
      rw [if_pos rfl]
      show [dia selfR a] = [a]
      rw [self_dia (hd a (by simp))]
  · rw [if_neg h1]
    by_cases h2 : o = 65
    · subst h2
      rw [if_pos rfl]
      have hl : d.length = 4 := by
        have : shp 65 = some (0, 4) := rfl
        rw [this] at hs
        simp only [Option.some.injEq, Prod.mk.injEq] at hs; exact hs.2.symm
      have e : (List.range 4).map (concR selfR d) = (List.range 4).map (dsF d) := by
        refine List.map_congr_left fun s hs => ?_
        simp only [List.mem_range] at hs
        exact self_comp (dsF_c hd) hs
      rw [e, list4 hl]
    · rw [if_neg h2]
theorem Ct.self_conc : ∀ t : Ct, t.WF → t.conc selfR = t
  | .n0 o d, h => by simp only [conc, self_concD h.1 h.2]
  | .n1 o d x, h => by simp only [conc, self_concD h.1.1 h.1.2, Ct.self_conc x h.2]
  | .n2 o d x y, h => by simp only [conc, self_concD h.1.1 h.1.2, Ct.self_conc x h.2.1, Ct.self_conc y h.2.2]
theorem Ct.self_fits : ∀ t : Ct, t.WF → t.fits selfR = true
  | .n0 o d, h => self_fitsD (dsF_c h.2)
  | .n1 o d x, h => by simp only [fits, self_fitsD (dsF_c h.1.2), Ct.self_fits x h.2, Bool.and_self]
  | .n2 o d x y, h => by simp only [fits, self_fitsD (dsF_c h.1.2), Ct.self_fits x h.2.1, Ct.self_fits y h.2.2, Bool.and_self]
theorem self_fwd {t u : Nat → Int} (ht : Mon t) (hu : Mon u) : fwdT selfR t u = refT t u := by
  rw [Bool.eq_iff_iff, fwd_sub self_c ht hu, ref_sub ht.ok hu.ok]
  refine forall_congr' fun p => forall_congr' fun hp => ?_
  rw [self_dia (ht.ok p), self_dia (c_nat hp), Int.toNat_natCast]
end Go.Proofs.YtaeibhpkcikaaaaGreat
