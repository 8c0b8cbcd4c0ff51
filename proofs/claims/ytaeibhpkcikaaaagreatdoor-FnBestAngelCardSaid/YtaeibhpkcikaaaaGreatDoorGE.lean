/- Plain laws of residuals and simulations of tables. No program in sight. -/
import Derived.Test.YtaeibhpkcikaaaaGreatDoorGD
import Derived.Test.YtaeibhpkcikaaaaGreatDoorGA
/- Res -/
namespace Go.Proofs.YtaeibhpkcikaaaaGreatDoor
set_option linter.unusedVariables false
set_option linter.unusedSimpArgs false
open Go.RowKit

theorem ref_sub {t u : Nat → Int} (ht : Cond t) (hu : Cond u) : refT t u = true ↔ ∀ p, p < 16 → Sub (t p) (u p) :=
  ⟨fun h p hp => (sub_dif (ht p) (hu p)).1 (refT_at h hp), fun h => refT_of fun k hk => (sub_dif (ht k) (hu k)).2 (h k hk)⟩
/-- a monotone table of conditions -/
structure Mon (f : Nat → Int) : Prop where
  ok : Cond f
  up : mono f = true
theorem Mon.sub {f : Nat → Int} (h : Mon f) {p q : Nat} (hp : p < 16) (hq : q < 16) (s : Sub p q) : Sub (f p) (f q) := (mono_sub h.ok).1 h.up p q hp hq s
theorem Mon.at {f : Nat → Int} (h : Mon f) {p q : Int} (hp : C p) (hq : C q) (s : Sub p q) : Sub (f p.toNat) (f q.toNat) := mono_toNat h.ok h.up hp hq s
theorem Mon.of {f : Nat → Int} (h : Cond f) (s : ∀ p q : Nat, p < 16 → q < 16 → Sub p q → Sub (f p) (f q)) : Mon f := ⟨h, (mono_sub h).2 s⟩
theorem Mon.tr {f : Nat → Int} (h : Mon f) : okTr (txt 16 f) = true := okTr_of h.ok h.up
theorem Mon.tx {f : Nat → Int} (h : Mon f) : okTxt 16 (txt 16 f) = true := okTxt_txt 16 f h.ok
theorem mon_val {s : ByteArray} (h : okTr s = true) : Mon (val s) := ⟨val_ok s, okTr_mono h⟩
theorem txt_val {n : Nat} {s : ByteArray} (h : okTxt n s = true) : txt n (val s) = s :=
  txt_eq (okTxt_txt n _ (val_ok s)) h fun k hk => val_txt n _ (val_ok s) k hk
theorem Mon.then {t u : Nat → Int} (ht : Mon t) (hu : Mon u) : Mon (thenT t u) := ⟨thenT_ok ht.ok u, mono_then ht.ok hu.ok ht.up hu.up⟩
theorem Mon.dual {t : Nat → Int} (ht : Mon t) : Mon (dualT t) := ⟨dualT_ok ht.ok, mono_dual ht.ok ht.up⟩
theorem Mon.angel {r : Nat → Int} (hr : Cond r) : Mon (angelT r) := ⟨angelT_ok r, mono_angel hr⟩
theorem Mon.demon {r : Nat → Int} (hr : Cond r) : Mon (demonT r) := ⟨demonT_ok r, mono_demon hr⟩
theorem Mon.congr {f g : Nat → Int} (h : Mon f) (hg : Cond g) (e : Eq16 f g) : Mon g := ⟨hg, by rw [← mono_congr e]; exact h.up⟩
theorem sub_and {p q x : Int} (hp : C p) (hq : C q) : Sub x (bits .and .i64 p q) ↔ Sub x p ∧ Sub x q := by
  constructor
  · intro h
    exact ⟨fun i hi hx => by have := h i hi hx; rw [has_and hp.fit16 hq.fit16] at this; simp at this; exact this.1, fun i hi hx => by have := h i hi hx; rw [has_and hp.fit16 hq.fit16] at this; simp at this; exact this.2⟩
  · rintro ⟨a, b⟩ i hi hx
    rw [has_and hp.fit16 hq.fit16, a i hi hx, b i hi hx]; rfl
theorem or_sub {p q x : Int} (hp : C p) (hq : C q) : Sub (bits .or .i64 p q) x ↔ Sub p x ∧ Sub q x := by
  constructor
  · intro h
    exact ⟨fun i hi hx => h i hi (by rw [has_or hp.fit16 hq.fit16, hx]; rfl), fun i hi hx => h i hi (by rw [has_or hp.fit16 hq.fit16, hx, Bool.or_true])⟩
  · rintro ⟨a, b⟩ i hi hx
    rw [has_or hp.fit16 hq.fit16, Bool.or_eq_true] at hx
    exact hx.elim (a i hi) (b i hi)
theorem and_mono {p q p' q' : Int} (hp : C p) (hq : C q) (hp' : C p') (hq' : C q') (a : Sub p p') (b : Sub q q') : Sub (bits .and .i64 p q) (bits .and .i64 p' q') :=
  have h := (sub_and hp hq).1 (Sub.refl _)
  (sub_and hp' hq').2 ⟨h.1.trans a, h.2.trans b⟩
theorem or_mono {p q p' q' : Int} (hp : C p) (hq : C q) (hp' : C p') (hq' : C q') (a : Sub p p') (b : Sub q q') : Sub (bits .or .i64 p q) (bits .or .i64 p' q') :=
  have h := (or_sub hp' hq').1 (Sub.refl _)
  (or_sub hp hq).2 ⟨a.trans h.1, b.trans h.2⟩
theorem Mon.meet {t u : Nat → Int} (ht : Mon t) (hu : Mon u) : Mon (meetT t u) :=
  Mon.of (meetT_ok ht.ok hu.ok) fun p q hp hq s => and_mono (ht.ok p) (hu.ok p) (ht.ok q) (hu.ok q) (ht.sub hp hq s) (hu.sub hp hq s)
theorem Mon.join {t u : Nat → Int} (ht : Mon t) (hu : Mon u) : Mon (joinT t u) :=
  Mon.of (joinT_ok ht.ok hu.ok) fun p q hp hq s => or_mono (ht.ok p) (hu.ok p) (ht.ok q) (hu.ok q) (ht.sub hp hq s) (hu.sub hp hq s)
theorem assertT_ok {p : Int} (hp : C p) : ∀ k, k < 16 → C (assertT p k) := fun k hk => C.and hp (c_nat hk)
/-- the table that does nothing -/
def skipT (k : Nat) : Int := if k < 16 then (k : Int) else 0
theorem skipT_ok : Cond skipT := fun k => by unfold skipT; split <;> omega
theorem skipT_at {k : Nat} (h : k < 16) : skipT k = k := by simp [skipT, h]
theorem skipT_c {p : Int} (h : C p) : skipT p.toNat = p := by rw [skipT_at (lt16 h), toNat_cast h]
theorem Mon.skip : Mon skipT := Mon.of skipT_ok fun p q hp hq s => by rw [skipT_at hp, skipT_at hq]; exact s
/-- asserting p, told below sixteen alone -/
def assT (p : Int) (k : Nat) : Int := if k < 16 then bits .and .i64 p (k : Int) else 0
theorem assT_at {p : Int} {k : Nat} (h : k < 16) : assT p k = bits .and .i64 p (k : Int) := by simp [assT, h]
theorem assT_ok {p : Int} (hp : C p) : Cond (assT p) := fun k => by
  unfold assT; split
  · exact C.and hp (c_nat (by assumption))
  · exact C.zero
theorem Mon.ass {p : Int} (hp : C p) : Mon (assT p) := Mon.of (assT_ok hp) fun a b ha hb s => by
  rw [assT_at ha, assT_at hb]; exact and_mono hp (c_nat ha) hp (c_nat hb) (Sub.refl _) s
theorem assT_eq (p : Int) : Eq16 (assertT p) (assT p) := fun k hk => by rw [assT_at hk]; rfl
theorem and_all {p : Int} (hp : C p) : bits .and .i64 15 p = p := C.ext (C.and C.all hp) hp fun i hi => by rw [has_and C.all.fit16 hp.fit16, has_15 hi]; rfl
theorem ass_all : Eq16 (assertT 15) skipT := fun k hk => by rw [skipT_at hk]; exact and_all (c_nat hk)

/-! ### residuals -/
theorem has_most {t u : Nat → Int} (ht : Cond t) (hu : Cond u) {p i : Nat} (hp : p < 16) (hi : i < 4) : has (mostT t u p) i = true ↔ ∀ q, q < 16 → Sub p (t q) → has (u q) i = true := by
  unfold mostT
  rw [has_andf _ _ _ (fun k _ => C.fit (hu k)) i hi]
  simp only [List.all_eq_true, List.mem_range, Bool.or_eq_true, Bool.not_eq_true', beq_eq_false_iff_ne, ne_eq]
  constructor
  · intro h q hq s
    exact (h q hq).resolve_left fun hn => hn ((sub_dif (c_nat hp) (ht q)).2 s)
  · intro h q hq
    by_cases e : bits .andNot .i64 (p : Int) (t q) = 0
    · exact .inr (h q hq ((sub_dif (c_nat hp) (ht q)).1 e))
    · exact .inl e
theorem has_least {t u : Nat → Int} (ht : Cond t) (hu : Cond u) {p i : Nat} (hp : p < 16) : has (leastT t u p) i = true ↔ ∃ q, q < 16 ∧ Sub (t q) p ∧ has (u q) i = true := by
  unfold leastT
  rw [has_orf (m := 4) (by decide) _ _ _ (fun k _ => C.fit (hu k)) i]
  simp only [List.any_eq_true, List.mem_range, Bool.and_eq_true, beq_iff_eq]
  constructor
  · rintro ⟨q, hq, e, h⟩
    exact ⟨q, hq, (sub_dif (ht q) (c_nat hp)).1 e, h⟩
  · rintro ⟨q, hq, s, h⟩
    exact ⟨q, hq, (sub_dif (ht q) (c_nat hp)).2 s, h⟩
theorem sub_most {t u : Nat → Int} (ht : Cond t) (hu : Cond u) {p : Nat} (hp : p < 16) {x : Int} : Sub x (mostT t u p) ↔ ∀ q, q < 16 → Sub p (t q) → Sub x (u q) :=
  ⟨fun h q hq s i hi hx => (has_most ht hu hp hi).1 (h i hi hx) q hq s, fun h i hi hx => (has_most ht hu hp hi).2 fun q hq s => h q hq s i hi hx⟩
theorem least_sub {t u : Nat → Int} (ht : Cond t) (hu : Cond u) {p : Nat} (hp : p < 16) {x : Int} : Sub (leastT t u p) x ↔ ∀ q, q < 16 → Sub (t q) p → Sub (u q) x :=
  ⟨fun h q hq s i hi hx => h i hi ((has_least ht hu hp).2 ⟨q, hq, s, hx⟩), fun h i hi hx => by
    obtain ⟨q, hq, s, hx⟩ := (has_least ht hu hp).1 hx
    exact h q hq s i hi hx⟩
theorem Mon.most {t u : Nat → Int} (ht : Cond t) (hu : Cond u) : Mon (mostT t u) :=
  Mon.of (mostT_ok hu) fun _ _ hp hq s => (sub_most ht hu hq).2 fun k hk h => (sub_most ht hu hp).1 (Sub.refl _) k hk (s.trans h)
theorem Mon.least {t u : Nat → Int} (ht : Cond t) (hu : Cond u) : Mon (leastT t u) :=
  Mon.of (leastT_ok hu) fun _ _ hp hq s => (least_sub ht hu hp).2 fun k hk h => (least_sub ht hu hq).1 (Sub.refl _) k hk (h.trans s)
theorem then_at {t u : Nat → Int} (p : Nat) : thenT t u p = t (u p).toNat := rfl
theorem up_nat {f : Nat → Int} (h : Mon f) {p : Nat} {q : Int} (hp : p < 16) (hq : C q) (s : Sub p q) : Sub (f p) (f q.toNat) := by
  have := h.at (c_nat hp) hq s; simpa using this
theorem dn_nat {f : Nat → Int} (h : Mon f) {p : Int} {q : Nat} (hp : C p) (hq : q < 16) (s : Sub p q) : Sub (f p.toNat) (f q) := by
  have := h.at hp (c_nat hq) s; simpa using this
theorem ref_bool {a b c d : Nat → Int} (h : refT a b = true ↔ refT c d = true) : refT a b = refT c d := by rw [Bool.eq_iff_iff]; exact h
theorem law_most {t u v : Nat → Int} (ht : Mon t) (hu : Mon u) (hv : Mon v) : refT (thenT v t) u = refT v (mostT t u) := ref_bool <| by
  rw [ref_sub (thenT_ok hv.ok t) hu.ok, ref_sub hv.ok (mostT_ok hu.ok)]
  constructor
  · intro h p hp
    exact (sub_most ht.ok hu.ok hp).2 fun q hq s => (up_nat hv hp (ht.ok q) s).trans (h q hq)
  · intro h p hp
    have h1 := (sub_most ht.ok hu.ok (lt16 (ht.ok p))).1 (h _ (lt16 (ht.ok p))) p hp
    rw [toNat_cast (ht.ok p)] at h1
    exact h1 (Sub.refl _)
theorem law_least {t u v : Nat → Int} (ht : Mon t) (hu : Mon u) (hv : Mon v) : refT u (thenT v t) = refT (leastT t u) v := ref_bool <| by
  rw [ref_sub hu.ok (thenT_ok hv.ok t), ref_sub (leastT_ok hu.ok) hv.ok]
  constructor
  · intro h p hp
    exact (least_sub ht.ok hu.ok hp).2 fun q hq s => (h q hq).trans (dn_nat hv (ht.ok q) hp s)
  · intro h p hp
    have h1 := (least_sub ht.ok hu.ok (lt16 (ht.ok p))).1 (h _ (lt16 (ht.ok p))) p hp
    rw [toNat_cast (ht.ok p)] at h1
    exact h1 (Sub.refl _)
theorem ref_refl {t : Nat → Int} (ht : Cond t) : refT t t = true := (ref_sub ht ht).2 fun _ _ => Sub.refl _
theorem ref_trans {t u v : Nat → Int} (ht : Cond t) (hu : Cond u) (hv : Cond v) (a : refT t u = true) (b : refT u v = true) : refT t v = true :=
  (ref_sub ht hv).2 fun p hp => ((ref_sub ht hu).1 a p hp).trans ((ref_sub hu hv).1 b p hp)
theorem ref_eq {t u : Nat → Int} (ht : Cond t) (hu : Cond u) (a : refT t u = true) (b : refT u t = true) : Eq16 t u := fun p hp =>
  Sub.antisymm (ht p) (hu p) ((ref_sub ht hu).1 a p hp) ((ref_sub hu ht).1 b p hp)
theorem law_most_self {t u : Nat → Int} (ht : Mon t) (hu : Mon u) : refT (thenT (mostT t u) t) u = true := by
  rw [law_most ht hu (Mon.most ht.ok hu.ok)]; exact ref_refl (mostT_ok hu.ok)
theorem law_least_self {t u : Nat → Int} (ht : Mon t) (hu : Mon u) : refT u (thenT (leastT t u) t) = true := by
  rw [law_least ht hu (Mon.least ht.ok hu.ok)]; exact ref_refl (leastT_ok hu.ok)
theorem sub_notp_iff {p q : Int} (hp : C p) (hq : C q) : Sub (notp q) (notp p) ↔ Sub p q :=
  ⟨fun h => by have := sub_notp (notp_ok hq) (notp_ok hp) h; rwa [notp_notp hp, notp_notp hq] at this, sub_notp hp hq⟩
theorem dual_dual {t : Nat → Int} (ht : Cond t) : Eq16 (dualT (dualT t)) t := fun p hp => by
  unfold dualT
  rw [toNat_cast (notp_ok (c_nat hp)), notp_notp (c_nat hp), notp_notp (ht _)]
  simp
theorem ref_dual {t u : Nat → Int} (ht : Cond t) (hu : Cond u) : refT (dualT u) (dualT t) = refT t u := ref_bool <| by
  rw [ref_sub (dualT_ok hu) (dualT_ok ht), ref_sub ht hu]
  constructor
  · intro h p hp
    have h1 := h _ (lt16 (notp_ok (c_nat hp)))
    unfold dualT at h1
    rw [toNat_cast (notp_ok (c_nat hp)), notp_notp (c_nat hp), sub_notp_iff (ht _) (hu _)] at h1
    simpa using h1
  · intro h p hp
    exact (sub_notp_iff (ht _) (hu _)).2 (h _ (lt16 (notp_ok (c_nat hp))))
theorem law_dual_most {t u : Nat → Int} (ht : Cond t) (hu : Cond u) : Eq16 (dualT (mostT (dualT t) (dualT u))) (leastT t u) := fun p hp => by
  have hn := notp_ok (c_nat hp)
  refine C.ext (dualT_ok (mostT_ok (dualT_ok hu)) p) (leastT_ok hu p) fun i hi => ?_
  have e : dualT (mostT (dualT t) (dualT u)) p = notp (mostT (dualT t) (dualT u) (notp (p : Int)).toNat) := rfl
  rw [e, has_notp (mostT_ok (dualT_ok hu) _) hi, Bool.eq_iff_iff, Bool.not_eq_true', Bool.eq_false_iff, ne_eq, has_most (dualT_ok ht) (dualT_ok hu) (lt16 hn) hi, has_least ht hu hp, toNat_cast hn]
  constructor
  · intro h
    refine Classical.byContradiction fun hc => h fun q hq s => ?_
    have h1 : Sub (t (notp (q : Int)).toNat) p := (sub_notp_iff (ht _) (c_nat hp)).1 s
    show has (notp (u (notp (q : Int)).toNat)) i = true
    rw [has_notp (hu _) hi]
    cases hh : has (u (notp (q : Int)).toNat) i
    · rfl
    · exact (hc ⟨_, lt16 (notp_ok (c_nat hq)), h1, hh⟩).elim
  · rintro ⟨q, hq, s, hx⟩ h
    have h1 := h (notp (q : Int)).toNat (lt16 (notp_ok (c_nat hq)))
    have e2 : (notp (((notp (q : Int)).toNat : Nat) : Int)).toNat = q := by rw [toNat_cast (notp_ok (c_nat hq)), notp_notp (c_nat hq)]; simp
    unfold dualT at h1
    rw [e2] at h1
    have h2 := h1 ((sub_notp_iff (ht _) (c_nat hp)).2 s)
    rw [has_notp (hu _) hi, hx] at h2
    cases h2
theorem law_most_then {t u v : Nat → Int} (ht : Mon t) (hu : Mon u) (hv : Mon v) : Eq16 (mostT (thenT v t) u) (mostT v (mostT t u)) := fun p hp =>
  Sub.antisymm (mostT_ok hu.ok p) (mostT_ok (mostT_ok hu.ok) p)
    ((sub_most hv.ok (mostT_ok hu.ok) hp).2 fun q hq s => (sub_most ht.ok hu.ok hq).2 fun k hk s2 =>
      (sub_most (thenT_ok hv.ok t) hu.ok hp).1 (Sub.refl _) k hk (s.trans (up_nat hv hq (ht.ok k) s2)))
    ((sub_most (thenT_ok hv.ok t) hu.ok hp).2 fun k hk s => by
      have h1 := (sub_most (x := mostT v (mostT t u) p) hv.ok (mostT_ok (t := t) hu.ok) hp).1 (Sub.refl _) (t k).toNat (lt16 (ht.ok k)) s
      refine (sub_most ht.ok hu.ok (lt16 (ht.ok k))).1 h1 k hk ?_
      rw [toNat_cast (ht.ok k)]; exact Sub.refl _)
theorem law_least_then {t u v : Nat → Int} (ht : Mon t) (hu : Mon u) (hv : Mon v) : Eq16 (leastT (thenT v t) u) (leastT v (leastT t u)) := fun p hp =>
  Sub.antisymm (leastT_ok hu.ok p) (leastT_ok (leastT_ok hu.ok) p)
    ((least_sub (thenT_ok hv.ok t) hu.ok hp).2 fun k hk s => by
      have h1 := (least_sub (x := leastT v (leastT t u) p) hv.ok (leastT_ok (t := t) hu.ok) hp).1 (Sub.refl _) (t k).toNat (lt16 (ht.ok k)) s
      refine ((least_sub ht.ok hu.ok (lt16 (ht.ok k))).1 (Sub.refl _) k hk ?_).trans h1
      rw [toNat_cast (ht.ok k)]; exact Sub.refl _)
    ((least_sub hv.ok (leastT_ok hu.ok) hp).2 fun q hq s => (least_sub ht.ok hu.ok hq).2 fun k hk s2 =>
      (least_sub (thenT_ok hv.ok t) hu.ok hp).1 (Sub.refl _) k hk ((dn_nat hv (ht.ok k) hq s2).trans s))
theorem ref_then {t t' u : Nat → Int} (ht : Cond t) (ht' : Cond t') (hu : Cond u) (h : refT t t' = true) : refT (thenT t u) (thenT t' u) = true :=
  (ref_sub (thenT_ok ht u) (thenT_ok ht' u)).2 fun p _ => (ref_sub ht ht').1 h _ (lt16 (hu p))
theorem ref_then' {t u u' : Nat → Int} (ht : Mon t) (hu : Cond u) (hu' : Cond u') (h : refT u u' = true) : refT (thenT t u) (thenT t u') = true :=
  (ref_sub (thenT_ok ht.ok u) (thenT_ok ht.ok u')).2 fun p hp => ht.at (hu p) (hu' p) ((ref_sub hu hu').1 h p hp)
theorem law_go {t v : Nat → Int} (ht : Mon t) (hv : Mon v) : Eq16 (thenT (mostT t (thenT v t)) t) (thenT v t) := by
  have hvt := hv.then ht
  refine ref_eq (thenT_ok (mostT_ok hvt.ok) t) hvt.ok (law_most_self ht hvt) ?_
  refine ref_then hv.ok (mostT_ok hvt.ok) ht.ok ?_
  rw [← law_most ht hvt hv]; exact ref_refl hvt.ok
theorem then_skip {u : Nat → Int} : Eq16 (thenT u skipT) u := fun p hp => by rw [then_at, skipT_at hp]; simp
theorem skip_then {u : Nat → Int} (hu : Cond u) : Eq16 (thenT skipT u) u := fun p _ => by rw [then_at, skipT_c (hu p)]
theorem law_go_skip {u : Nat → Int} (hu : Mon u) : Eq16 (thenT (mostT skipT u) skipT) u := by
  have h := law_go Mon.skip hu
  have e : Eq16 (mostT skipT (thenT u skipT)) (mostT skipT u) := (Eq16.refl _).most then_skip
  exact ((e.symm.then (Eq16.refl skipT) skipT_ok).trans h).trans then_skip

/-! ### angel and demon of a relation and of the turned one -/
theorem has_turn {r : Nat → Int} {s t : Nat} (ht : t < 4) : has (turn r s) t = has (r t) s := by
  unfold turn; rw [has_mk _ (by decide)]; simp [ht]
theorem gal {r : Nat → Int} (hr : Cond r) {p q : Int} (hp : C p) (hq : C q) : Sub (dia r p) q ↔ Sub p (box (turn r) q) := by
  constructor
  · intro h j hj hpj
    refine (has_box (turn_ok r) hq hj).2 fun i hi hx => h i hi ?_
    rw [has_turn hi] at hx
    exact (has_dia hr hp hi).2 ⟨j, hj, hx, hpj⟩
  · intro h i hi hx
    obtain ⟨j, hj, h1, h2⟩ := (has_dia hr hp hi).1 hx
    exact (has_box (turn_ok r) hq hj).1 (h j hj h2) i hi (by rw [has_turn hi]; exact h1)
theorem gal' {r : Nat → Int} (hr : Cond r) {p q : Int} (hp : C p) (hq : C q) : Sub (dia (turn r) p) q ↔ Sub p (box r q) := by
  constructor
  · intro h j hj hpj
    refine (has_box hr hq hj).2 fun i hi hx => h i hi ?_
    exact (has_dia (turn_ok r) hp hi).2 ⟨j, hj, by rw [has_turn hj]; exact hx, hpj⟩
  · intro h i hi hx
    obtain ⟨j, hj, h1, h2⟩ := (has_dia (turn_ok r) hp hi).1 hx
    rw [has_turn hj] at h1
    exact (has_box hr hq hj).1 (h j hj h2) i hi h1
theorem angel_at (r : Nat → Int) {p : Int} (h : C p) : angelT r p.toNat = dia r p := by unfold angelT; rw [toNat_cast h]
theorem demon_at (r : Nat → Int) {p : Int} (h : C p) : demonT r p.toNat = box r p := by unfold demonT; rw [toNat_cast h]
theorem law_behind_angel {r u v : Nat → Int} (hr : Cond r) (hu : Mon u) (hv : Mon v) : refT (thenT (angelT r) v) u = refT v (thenT (demonT (turn r)) u) := ref_bool <| by
  rw [ref_sub (thenT_ok (angelT_ok r) v) hu.ok, ref_sub hv.ok (thenT_ok (demonT_ok _) u)]
  simp only [then_at, angel_at r (hv.ok _), demon_at _ (hu.ok _)]
  exact ⟨fun h p hp => (gal hr (hv.ok p) (hu.ok p)).1 (h p hp), fun h p hp => (gal hr (hv.ok p) (hu.ok p)).2 (h p hp)⟩
theorem law_behind_demon {r u v : Nat → Int} (hr : Cond r) (hu : Mon u) (hv : Mon v) : refT u (thenT (demonT r) v) = refT (thenT (angelT (turn r)) u) v := ref_bool <| by
  rw [ref_sub hu.ok (thenT_ok (demonT_ok r) v), ref_sub (thenT_ok (angelT_ok _) u) hv.ok]
  simp only [then_at, angel_at _ (hu.ok _), demon_at r (hv.ok _)]
  exact ⟨fun h p hp => (gal' hr (hu.ok p) (hv.ok p)).2 (h p hp), fun h p hp => (gal' hr (hu.ok p) (hv.ok p)).1 (h p hp)⟩

/-! ### simulations -/
theorem law_fwd {r t u : Nat → Int} (hr : Cond r) (ht : Mon t) (hu : Mon u) : fwdT r t u = refT (leastT (angelT r) (thenT (angelT r) t)) u :=
  law_least (Mon.angel hr) ((Mon.angel hr).then ht) hu
theorem law_fwd' {r t u : Nat → Int} (hr : Cond r) (ht : Mon t) (hu : Mon u) : fwdT r t u = refT t (thenT (demonT (turn r)) (thenT u (angelT r))) :=
  law_behind_angel hr (hu.then (Mon.angel hr)) ht
theorem fwd_least {r t : Nat → Int} (hr : Cond r) (ht : Mon t) : fwdT r t (leastT (angelT r) (thenT (angelT r) t)) = true :=
  law_least_self (Mon.angel hr) ((Mon.angel hr).then ht)
theorem fwd_sub {r t u : Nat → Int} (hr : Cond r) (ht : Mon t) (hu : Mon u) : fwdT r t u = true ↔ ∀ p, p < 16 → Sub (dia r (t p)) (u (dia r (p : Int)).toNat) := by
  unfold fwdT
  rw [ref_sub (thenT_ok (angelT_ok r) t) (thenT_ok hu.ok _)]
  simp only [then_at, angel_at r (ht.ok _)]
  exact Iff.rfl
theorem dia_mono {r : Nat → Int} (hr : Cond r) {p q : Int} (hp : C p) (hq : C q) (s : Sub p q) : Sub (dia r p) (dia r q) := fun i hi h => by
  obtain ⟨j, hj, h1, h2⟩ := (has_dia hr hp hi).1 h
  exact (has_dia hr hq hi).2 ⟨j, hj, h1, s j hj h2⟩
theorem box_mono {r : Nat → Int} (hr : Cond r) {p q : Int} (hp : C p) (hq : C q) (s : Sub p q) : Sub (box r p) (box r q) := fun i hi h =>
  (has_box hr hq hi).2 (((has_box hr hp hi).1 h).trans s)
theorem dia_or {r : Nat → Int} (hr : Cond r) {p q : Int} (hp : C p) (hq : C q) : Sub (dia r (bits .or .i64 p q)) (bits .or .i64 (dia r p) (dia r q)) := fun i hi h => by
  obtain ⟨j, hj, h1, h2⟩ := (has_dia hr (C.or hp hq) hi).1 h
  rw [has_or hp.fit16 hq.fit16, Bool.or_eq_true] at h2
  rw [has_or (C.fit16 (dia_ok _ _)) (C.fit16 (dia_ok _ _)), Bool.or_eq_true]
  exact h2.imp (fun h2 => (has_dia hr hp hi).2 ⟨j, hj, h1, h2⟩) (fun h2 => (has_dia hr hq hi).2 ⟨j, hj, h1, h2⟩)
theorem dia_and {r : Nat → Int} (hr : Cond r) {p q : Int} (hp : C p) (hq : C q) : Sub (dia r (bits .and .i64 p q)) (bits .and .i64 (dia r p) (dia r q)) :=
  have h := (sub_and hp hq).1 (Sub.refl _)
  (sub_and (dia_ok _ _) (dia_ok _ _)).2 ⟨dia_mono hr (C.and hp hq) hp h.1, dia_mono hr (C.and hp hq) hq h.2⟩
theorem box_and {r : Nat → Int} (hr : Cond r) {p q : Int} (hp : C p) (hq : C q) : Sub (bits .and .i64 (box r p) (box r q)) (box r (bits .and .i64 p q)) := fun i hi h => by
  rw [has_and (C.fit16 (box_ok _ _)) (C.fit16 (box_ok _ _)), Bool.and_eq_true, has_box hr hp hi, has_box hr hq hi] at h
  exact (has_box hr (C.and hp hq) hi).2 ((sub_and hp hq).2 h)
theorem box_or {r : Nat → Int} (hr : Cond r) {p q : Int} (hp : C p) (hq : C q) : Sub (bits .or .i64 (box r p) (box r q)) (box r (bits .or .i64 p q)) :=
  have h := (or_sub hp hq).1 (Sub.refl _)
  (or_sub (box_ok _ _) (box_ok _ _)).2 ⟨box_mono hr hp (C.or hp hq) h.1, box_mono hr hq (C.or hp hq) h.2⟩
theorem fwd_then {r t u v w : Nat → Int} (hr : Cond r) (ht : Mon t) (hu : Mon u) (hv : Mon v) (hw : Mon w) (h : fwdT r t u = true) (k : fwdT r v w = true) : fwdT r (thenT t v) (thenT u w) = true := by
  rw [fwd_sub hr ht hu] at h; rw [fwd_sub hr hv hw] at k; rw [fwd_sub hr (ht.then hv) (hu.then hw)]
  intro p hp
  have h1 := h _ (lt16 (hv.ok p))
  rw [toNat_cast (hv.ok p)] at h1
  exact h1.trans (hu.at (dia_ok _ _) (hw.ok _) (k p hp))
theorem fwd_meet {r t u v w : Nat → Int} (hr : Cond r) (ht : Mon t) (hu : Mon u) (hv : Mon v) (hw : Mon w) (h : fwdT r t u = true) (k : fwdT r v w = true) : fwdT r (meetT t v) (meetT u w) = true := by
  rw [fwd_sub hr ht hu] at h; rw [fwd_sub hr hv hw] at k; rw [fwd_sub hr (ht.meet hv) (hu.meet hw)]
  exact fun p hp => (dia_and hr (ht.ok p) (hv.ok p)).trans (and_mono (dia_ok _ _) (dia_ok _ _) (hu.ok _) (hw.ok _) (h p hp) (k p hp))
theorem fwd_join {r t u v w : Nat → Int} (hr : Cond r) (ht : Mon t) (hu : Mon u) (hv : Mon v) (hw : Mon w) (h : fwdT r t u = true) (k : fwdT r v w = true) : fwdT r (joinT t v) (joinT u w) = true := by
  rw [fwd_sub hr ht hu] at h; rw [fwd_sub hr hv hw] at k; rw [fwd_sub hr (ht.join hv) (hu.join hw)]
  exact fun p hp => (dia_or hr (ht.ok p) (hv.ok p)).trans (or_mono (dia_ok _ _) (dia_ok _ _) (hu.ok _) (hw.ok _) (h p hp) (k p hp))
/-- asserting what p is concretely -/
theorem law_ass {r : Nat → Int} (hr : Cond r) {p : Int} (hp : C p) : refT (leastT (angelT r) (thenT (angelT r) (assT p))) (assT (dia r p)) = true := by
  rw [← law_fwd hr (Mon.ass hp) (Mon.ass (dia_ok r p)), fwd_sub hr (Mon.ass hp) (Mon.ass (dia_ok r p))]
  intro q hq
  rw [assT_at hq, assT_at (lt16 (dia_ok r _)), toNat_cast (dia_ok r _)]
  exact dia_and hr hp (c_nat hq)
end Go.Proofs.YtaeibhpkcikaaaaGreatDoor

/- Res2 -/
namespace Go.Proofs.YtaeibhpkcikaaaaGreatDoor
set_option linter.unusedVariables false
set_option linter.unusedSimpArgs false
open Go.RowKit

/-! ### beside -/
theorem has_close {f : Int} {q : Nat} (hq : q < 16) : has (closeF f) q = true ↔ ∃ p, p < 16 ∧ has f p = true ∧ Sub (p : Int) (q : Int) := by
  unfold closeF
  rw [has_mk _ (by decide)]
  simp only [hq, decide_true, Bool.true_and, List.any_eq_true, List.mem_range, Bool.and_eq_true, beq_iff_eq]
  constructor
  · rintro ⟨p, hp, h, e⟩; exact ⟨p, hp, h, (sub_dif (c_nat hp) (c_nat hq)).1 e⟩
  · rintro ⟨p, hp, h, s⟩; exact ⟨p, hp, h, (sub_dif (c_nat hp) (c_nat hq)).2 s⟩
theorem has_fam {t : Nat → Int} {s p : Nat} (hp : p < 16) : has (famT t s) p = has (t p) s := by
  unfold famT; rw [has_mk _ (by decide)]; simp [hp]
theorem has_beside {t u : Nat → Int} {p i : Nat} (hp : p < 16) (hi : i < 4) : has (besideT t u p) i = true ↔ ∃ q, q < 16 ∧ has (u q) i = true ∧ has (t q) i = false ∧ Sub (q : Int) (p : Int) := by
  unfold besideT transOfT
  rw [has_mk _ (by decide)]
  simp only [hi, decide_true, Bool.true_and, has_close hp]
  constructor
  · rintro ⟨q, hq, h, s⟩
    unfold missT at h
    rw [has_dif (famT_fit u i) (famT_fit t i), has_fam hq, has_fam hq] at h
    simp at h
    exact ⟨q, hq, h.1, h.2, s⟩
  · rintro ⟨q, hq, h1, h2, s⟩
    refine ⟨q, hq, ?_, s⟩
    unfold missT
    rw [has_dif (famT_fit u i) (famT_fit t i), has_fam hq, has_fam hq, h1, h2]; rfl
theorem Mon.beside (t u : Nat → Int) : Mon (besideT t u) := Mon.of (besideT_ok t u) fun _ _ hp hq s i hi h => by
  obtain ⟨k, hk, h1, h2, h3⟩ := (has_beside hp hi).1 h
  exact (has_beside hq hi).2 ⟨k, hk, h1, h2, h3.trans s⟩
theorem law_beside {t u v : Nat → Int} (ht : Mon t) (hu : Mon u) (hv : Mon v) : refT u (joinT t v) = refT (besideT t u) v := ref_bool <| by
  rw [ref_sub hu.ok (joinT_ok ht.ok hv.ok), ref_sub (besideT_ok t u) hv.ok]
  constructor
  · intro h p hp i hi hx
    obtain ⟨q, hq, h1, h2, s⟩ := (has_beside hp hi).1 hx
    have h3 := h q hq i hi h1
    unfold joinT at h3
    rw [has_or (C.fit16 (ht.ok q)) (C.fit16 (hv.ok q)), h2, Bool.false_or] at h3
    exact hv.sub hq hp s i hi h3
  · intro h p hp i hi hx
    unfold joinT
    rw [has_or (C.fit16 (ht.ok p)) (C.fit16 (hv.ok p))]
    cases h2 : has (t p) i
    · rw [Bool.false_or]; exact h p hp i hi ((has_beside hp hi).2 ⟨p, hp, hx, h2, Sub.refl _⟩)
    · rfl
theorem dual_meet {t v : Nat → Int} (ht : Cond t) (hv : Cond v) : Eq16 (dualT (meetT t v)) (joinT (dualT t) (dualT v)) := fun p _ => by
  have hm := meetT_ok ht hv
  refine C.ext (dualT_ok hm p) (joinT_ok (dualT_ok ht) (dualT_ok hv) p) fun i hi => ?_
  show has (notp (meetT t v _)) i = has (bits .or .i64 (notp _) (notp _)) i
  rw [has_notp (hm _) hi, has_or (C.fit16 (notp_ok (ht _))) (C.fit16 (notp_ok (hv _))), has_notp (ht _) hi, has_notp (hv _) hi]
  unfold meetT
  rw [has_and (C.fit16 (ht _)) (C.fit16 (hv _)), Bool.not_and]
theorem Mon.besideD (t u : Nat → Int) : Mon (besideD t u) := (Mon.beside _ _).dual
theorem law_besideD {t u v : Nat → Int} (ht : Mon t) (hu : Mon u) (hv : Mon v) : refT (meetT t v) u = refT v (besideD t u) := by
  rw [← ref_dual (meetT_ok ht.ok hv.ok) hu.ok, Eq16.ref (Eq16.refl _) (dual_meet ht.ok hv.ok), law_beside ht.dual hu.dual hv.dual]
  rw [← ref_dual (besideT_ok _ _) (dualT_ok hv.ok)]
  exact Eq16.ref (dual_dual hv.ok) (Eq16.refl _)
theorem beside_ref {t u : Nat → Int} (hu : Mon u) : refT (besideT t u) u = true := (ref_sub (besideT_ok t u) hu.ok).2 fun p hp i hi h => by
  obtain ⟨q, hq, h1, _, s⟩ := (has_beside hp hi).1 h
  exact hu.sub hq hp s i hi h1
theorem ref_besideD {t u : Nat → Int} (hu : Mon u) : refT u (besideD t u) = true := by
  rw [← ref_dual hu.ok (besideD_ok t u)]
  show refT (dualT (dualT (besideT (dualT t) (dualT u)))) (dualT u) = true
  rw [Eq16.ref (dual_dual (besideT_ok (dualT t) (dualT u))) (Eq16.refl _)]
  exact beside_ref hu.dual
theorem law_beside_self {t u : Nat → Int} (ht : Mon t) (hu : Mon u) : refT u (joinT t (besideT t u)) = true := by
  rw [law_beside ht hu (Mon.beside t u)]; exact ref_refl (besideT_ok t u)
theorem law_besideD_self {t u : Nat → Int} (ht : Mon t) (hu : Mon u) : refT (meetT t (besideD t u)) u = true := by
  rw [law_besideD ht hu (Mon.besideD t u)]; exact ref_refl (besideD_ok t u)
/-- nothing is missing exactly if t refines u -/
theorem beside_none {t u : Nat → Int} (ht : Mon t) (hu : Mon u) : decide (txt 16 (besideT t u) = txt 16 (fun _ => 0)) = refT u t := by
  have hz : Cond (fun _ : Nat => (0 : Int)) := fun _ => C.zero
  rw [Bool.eq_iff_iff, decide_eq_true_eq, ref_sub hu.ok ht.ok]
  constructor
  · intro h p hp i hi hx
    cases h2 : has (t p) i
    · have h3 := (has_beside hp hi).2 ⟨p, hp, hx, h2, Sub.refl _⟩
      rw [← val_txt 16 _ (besideT_ok t u) p hp, h, val_txt 16 _ hz p hp, has_zero] at h3
      exact h3
    · rfl
  · intro h
    refine txt_ext fun p hp => C.ext (besideT_ok t u p) C.zero fun i hi => ?_
    rw [has_zero, Bool.eq_false_iff]
    intro hx
    obtain ⟨q, hq, h1, h2, _⟩ := (has_beside hp hi).1 hx
    rw [h q hq i hi h1] at h2; cases h2
theorem besideD_none {t u : Nat → Int} (ht : Mon t) (hu : Mon u) : decide (txt 16 (besideD t u) = txt 16 (fun _ => 15)) = refT t u := by
  have hz : Cond (fun _ : Nat => (0 : Int)) := fun _ => C.zero
  have ha : Cond (fun _ : Nat => (15 : Int)) := fun _ => C.all
  rw [← ref_dual ht.ok hu.ok, ← beside_none ht.dual hu.dual, Bool.eq_iff_iff, decide_eq_true_eq, decide_eq_true_eq]
  have n0 : notp 0 = 15 := C.ext (notp_ok C.zero) C.all fun i hi => by rw [has_notp C.zero hi, has_zero, has_15 hi]; rfl
  have n15 : notp 15 = 0 := C.ext (notp_ok C.all) C.zero fun i hi => by rw [has_notp C.all hi, has_zero, has_15 hi]; rfl
  constructor
  · intro h
    refine txt_ext fun p hp => ?_
    have h1 : besideD t u (notp (p : Int)).toNat = 15 := by
      rw [← val_txt 16 _ (besideD_ok t u) _ (lt16 (notp_ok (c_nat hp))), h, val_txt 16 _ ha _ (lt16 (notp_ok (c_nat hp)))]
    unfold besideD at h1
    have h2 : notp (besideT (dualT t) (dualT u) (notp (((notp (p : Int)).toNat : Nat) : Int)).toNat) = 15 := h1
    rw [toNat_cast (notp_ok (c_nat hp)), notp_notp (c_nat hp)] at h2
    have h3 := congrArg notp h2
    rw [notp_notp (besideT_ok _ _ _), n15] at h3
    simpa using h3
  · intro h
    refine txt_ext fun p hp => ?_
    show notp (besideT (dualT t) (dualT u) (notp (p : Int)).toNat) = 15
    rw [← val_txt 16 _ (besideT_ok (dualT t) (dualT u)) _ (lt16 (notp_ok (c_nat hp))), h, val_txt 16 _ hz _ (lt16 (notp_ok (c_nat hp))), n0]

/-! ### backward -/
theorem Mon.way {r : Nat → Int} : Mon (wayT r) := Mon.demon (turn_ok r)
theorem law_bwd {r t u : Nat → Int} (ht : Mon t) (hu : Mon u) : bwdT r t u = refT t (absT r u) := law_most Mon.way (Mon.way.then hu) ht
theorem bwd_most {r u : Nat → Int} (hu : Mon u) : bwdT r (absT r u) u = true := law_most_self Mon.way (Mon.way.then hu)
theorem Mon.abs {r u : Nat → Int} (hu : Mon u) : Mon (absT r u) := Mon.most (wayT_ok r) (thenT_ok (wayT_ok r) u)
theorem way_at (r : Nat → Int) {p : Int} (h : C p) : wayT r p.toNat = box (turn r) p := demon_at _ h
theorem bwd_sub {r t u : Nat → Int} (ht : Mon t) (hu : Mon u) : bwdT r t u = true ↔ ∀ p : Nat, p < 16 → Sub (t (box (turn r) (p : Int)).toNat) (box (turn r) (u p)) := by
  unfold bwdT
  rw [ref_sub (thenT_ok ht.ok _) (thenT_ok (wayT_ok r) u)]
  simp only [then_at, way_at r (hu.ok _)]
  exact Iff.rfl
theorem bwd_then {r t u v w : Nat → Int} (ht : Mon t) (hu : Mon u) (hv : Mon v) (hw : Mon w) (h : bwdT r t u = true) (k : bwdT r v w = true) : bwdT r (thenT t v) (thenT u w) = true := by
  rw [bwd_sub ht hu] at h; rw [bwd_sub hv hw] at k; rw [bwd_sub (ht.then hv) (hu.then hw)]
  intro p hp
  have h1 := h _ (lt16 (hw.ok p))
  rw [toNat_cast (hw.ok p)] at h1
  exact (ht.at (hv.ok _) (box_ok _ _) (k p hp)).trans h1
theorem bwd_meet {r t u v w : Nat → Int} (ht : Mon t) (hu : Mon u) (hv : Mon v) (hw : Mon w) (h : bwdT r t u = true) (k : bwdT r v w = true) : bwdT r (meetT t v) (meetT u w) = true := by
  rw [bwd_sub ht hu] at h; rw [bwd_sub hv hw] at k; rw [bwd_sub (ht.meet hv) (hu.meet hw)]
  exact fun p hp => (and_mono (ht.ok _) (hv.ok _) (box_ok _ _) (box_ok _ _) (h p hp) (k p hp)).trans (box_and (turn_ok r) (hu.ok p) (hw.ok p))
theorem bwd_join {r t u v w : Nat → Int} (ht : Mon t) (hu : Mon u) (hv : Mon v) (hw : Mon w) (h : bwdT r t u = true) (k : bwdT r v w = true) : bwdT r (joinT t v) (joinT u w) = true := by
  rw [bwd_sub ht hu] at h; rw [bwd_sub hv hw] at k; rw [bwd_sub (ht.join hv) (hu.join hw)]
  exact fun p hp => (or_mono (ht.ok _) (hv.ok _) (box_ok _ _) (box_ok _ _) (h p hp) (k p hp)).trans (box_or (turn_ok r) (hu.ok p) (hw.ok p))
theorem dia_notp {r : Nat → Int} (hr : Cond r) {p : Int} (hp : C p) : dia r (notp p) = notp (box r p) := by
  rw [← boxP_notp hr hp, notp_notp (dia_ok _ _)]
theorem bwd_dual {r t u : Nat → Int} (ht : Mon t) (hu : Mon u) (h : bwdT r t u = true) : fwdT (turn r) (dualT u) (dualT t) = true := by
  rw [bwd_sub ht hu] at h
  rw [fwd_sub (turn_ok r) hu.dual ht.dual]
  intro p hp
  have hn := notp_ok (c_nat hp)
  have h1 := h _ (lt16 hn)
  rw [toNat_cast hn] at h1
  show Sub (dia (turn r) (notp (u (notp (p : Int)).toNat))) (notp (t (notp (((dia (turn r) (p : Int)).toNat : Nat) : Int)).toNat))
  rw [dia_notp (turn_ok r) (hu.ok _), toNat_cast (dia_ok _ _), sub_notp_iff (ht.ok _) (box_ok _ _)]
  have e : notp (dia (turn r) (p : Int)) = box (turn r) (notp (p : Int)) := by rw [← boxP_notp (turn_ok r) hn, notp_notp (c_nat hp)]
  rw [e]; exact h1

/-! ### views -/
theorem has_img {r : Nat → Int} (hr : Cond r) {p : Int} {i : Nat} : has (img r p) i = true ↔ ∃ j, j < 4 ∧ has p j = true ∧ has (r j) i = true := by
  unfold img
  rw [has_orf (m := 4) (by decide) _ _ _ (fun k _ => C.fit (hr k)) i]
  simp only [List.any_eq_true, List.mem_range, Bool.and_eq_true]
theorem comp_ok {q r : Nat → Int} (hr : Cond r) : Cond (comp q r) := fun _ => img_ok hr _
theorem dia_comp {q r : Nat → Int} (hq : Cond q) (hr : Cond r) {p : Int} (hp : C p) : dia (comp q r) p = dia q (dia r p) := C.ext (dia_ok _ _) (dia_ok _ _) fun i hi => by
  rw [Bool.eq_iff_iff, has_dia (comp_ok hr) hp hi, has_dia hq (dia_ok _ _) hi]
  constructor
  · rintro ⟨j, hj, h1, h2⟩
    obtain ⟨k, hk, h3, h4⟩ := (has_img hr).1 h1
    exact ⟨k, hk, h3, (has_dia hr hp hk).2 ⟨j, hj, h4, h2⟩⟩
  · rintro ⟨k, hk, h3, h5⟩
    obtain ⟨j, hj, h4, h2⟩ := (has_dia hr hp hk).1 h5
    exact ⟨j, hj, (has_img hr).2 ⟨k, hk, h3, h4⟩, h2⟩
theorem box_turn_comp {q r : Nat → Int} (hq : Cond q) (hr : Cond r) {p : Int} (hp : C p) : box (turn (comp q r)) p = box (turn r) (box (turn q) p) := by
  refine Sub.antisymm (box_ok _ _) (box_ok _ _) ?_ ?_
  · refine (gal hr (box_ok _ _) (box_ok _ _)).1 ((gal hq (dia_ok _ _) hp).1 ?_)
    rw [← dia_comp hq hr (box_ok _ _)]
    exact (gal (comp_ok hr) (box_ok _ _) hp).2 (Sub.refl _)
  · refine (gal (comp_ok hr) (box_ok _ _) hp).1 ?_
    rw [dia_comp hq hr (box_ok _ _)]
    exact (gal hq (dia_ok _ _) hp).2 ((gal hr (box_ok _ _) (box_ok _ _)).2 (Sub.refl _))
theorem fwd_comp {q r t u v : Nat → Int} (hq : Cond q) (hr : Cond r) (ht : Mon t) (hu : Mon u) (hv : Mon v) (h : fwdT r t u = true) (k : fwdT q u v = true) : fwdT (comp q r) t v = true := by
  rw [fwd_sub hr ht hu] at h; rw [fwd_sub hq hu hv] at k; rw [fwd_sub (comp_ok hr) ht hv]
  intro p hp
  rw [dia_comp hq hr (ht.ok p), dia_comp hq hr (c_nat hp)]
  have h1 := k _ (lt16 (dia_ok r (p : Int)))
  rw [toNat_cast (dia_ok _ _)] at h1
  exact (dia_mono hq (dia_ok _ _) (hu.ok _) (h p hp)).trans h1

/-! ### least points -/
def iter (f : Int → Int) : Nat → Int → Int
  | 0, y => y
  | n + 1, y => f (iter f n y)
/-- a monotone function on conditions -/
structure MonF (f : Int → Int) : Prop where
  ok : ∀ y, C y → C (f y)
  up : ∀ x y, C x → C y → Sub x y → Sub (f x) (f y)
/-- how many states -/
def cnt (p : Int) : Nat := (has p 0).toNat + (has p 1).toNat + (has p 2).toNat + (has p 3).toNat
theorem cnt_le (p : Int) : cnt p ≤ 4 := by
  unfold cnt
  have h0 := Bool.toNat_le (has p 0); have h1 := Bool.toNat_le (has p 1); have h2 := Bool.toNat_le (has p 2); have h3 := Bool.toNat_le (has p 3)
  omega
theorem cnt_lt {p q : Int} (hp : C p) (hq : C q) (s : Sub p q) (hne : p ≠ q) : cnt p < cnt q := by
  unfold cnt
  have h0 := s 0 (by decide); have h1 := s 1 (by decide); have h2 := s 2 (by decide); have h3 := s 3 (by decide)
  have hd : ¬ (has p 0 = has q 0 ∧ has p 1 = has q 1 ∧ has p 2 = has q 2 ∧ has p 3 = has q 3) := by
    rintro ⟨a, b, c, d⟩
    exact hne (C.ext hp hq fun i hi => by obtain rfl | rfl | rfl | rfl : i = 0 ∨ i = 1 ∨ i = 2 ∨ i = 3 := by omega
                                          all_goals assumption)
  revert h0 h1 h2 h3 hd
  generalize has p 0 = a0; generalize has p 1 = a1; generalize has p 2 = a2; generalize has p 3 = a3
  generalize has q 0 = b0; generalize has q 1 = b1; generalize has q 2 = b2; generalize has q 3 = b3
  cases a0 <;> cases a1 <;> cases a2 <;> cases a3 <;> cases b0 <;> cases b1 <;> cases b2 <;> cases b3 <;> simp
theorem iter_ok {f : Int → Int} (h : MonF f) (n : Nat) : C (iter f n 0) := by
  induction n with
  | zero => exact C.zero
  | succ n ih => exact h.ok _ ih
theorem iter_up {f : Int → Int} (h : MonF f) (n : Nat) : Sub (iter f n 0) (iter f (n + 1) 0) := by
  induction n with
  | zero => intro i _ hx; simp [iter, has_zero] at hx
  | succ n ih => exact h.up _ _ (iter_ok h n) (iter_ok h (n + 1)) ih
/-- the least point is reached -/
theorem iter_cnt {f : Int → Int} (h : MonF f) (n : Nat) (hne : ∀ k, k < n → f (iter f k 0) ≠ iter f k 0) : n ≤ cnt (iter f n 0) := by
  induction n with
  | zero => omega
  | succ n ih =>
    have h1 := ih fun k hk => hne k (by omega)
    have h2 := cnt_lt (iter_ok h n) (iter_ok h (n + 1)) (iter_up h n) fun e => hne n (by omega) e.symm
    omega
/-- the least point of a monotone function -/
def lfp (f : Int → Int) : Int := iter f 4 0
theorem lfp_ok {f : Int → Int} (h : MonF f) : C (lfp f) := iter_ok h 4
theorem iter_fix {f : Int → Int} {n : Nat} (h : f (iter f n 0) = iter f n 0) (m : Nat) (hm : n ≤ m) : iter f m 0 = iter f n 0 := by
  induction m with
  | zero => obtain rfl : n = 0 := by omega
            rfl
  | succ m ih =>
    by_cases e : n = m + 1
    · rw [e]
    · show f (iter f m 0) = _
      rw [ih (by omega), h]
theorem lfp_fix {f : Int → Int} (h : MonF f) : f (lfp f) = lfp f := by
  refine Classical.byContradiction fun hn => ?_
  have h1 : ∀ k, k < 5 → f (iter f k 0) ≠ iter f k 0 := fun k hk e => by
    have e2 := iter_fix e 4 (by omega)
    refine hn ?_
    show f (iter f 4 0) = iter f 4 0
    rw [e2]; exact e
  have := iter_cnt h 5 h1
  have := cnt_le (iter f 5 0)
  omega
theorem lfp_least {f : Int → Int} (h : MonF f) {y : Int} (hy : C y) (s : Sub (f y) y) : Sub (lfp f) y := by
  have : ∀ n, Sub (iter f n 0) y := fun n => by
    induction n with
    | zero => intro i _ hx; simp [iter, has_zero] at hx
    | succ n ih => exact (h.up _ _ (iter_ok h n) hy ih).trans s
  exact this 4
theorem lfp_eq {f : Int → Int} (h : MonF f) {n : Nat} (e : f (iter f n 0) = iter f n 0) : iter f n 0 = lfp f := by
  refine Sub.antisymm (iter_ok h n) (lfp_ok h) ?_ (lfp_least h (iter_ok h n) (by rw [e]; exact Sub.refl _))
  have : ∀ m, Sub (iter f m 0) (lfp f) := fun m => by
    induction m with
    | zero => intro i _ hx; simp [iter, has_zero] at hx
    | succ m ih => have := h.up _ _ (iter_ok h m) (lfp_ok h) ih; rwa [lfp_fix h] at this
  exact this n
/-- repeating as often as the angel wants, and as often as the demon wants -/
def starF (t : Nat → Int) (q : Int) (y : Int) : Int := bits .or .i64 (t y.toNat) q
def omegaF (t : Nat → Int) (q : Int) (y : Int) : Int := bits .and .i64 (t y.toNat) q
theorem MonF.star {t : Nat → Int} (ht : Mon t) {q : Int} (hq : C q) : MonF (starF t q) :=
  ⟨fun _ _ => C.or (ht.ok _) hq, fun _ _ hx hy s => or_mono (ht.ok _) hq (ht.ok _) hq (ht.at hx hy s) (Sub.refl _)⟩
theorem MonF.omega {t : Nat → Int} (ht : Mon t) {q : Int} (hq : C q) : MonF (omegaF t q) :=
  ⟨fun _ _ => C.and (ht.ok _) hq, fun _ _ hx hy s => and_mono (ht.ok _) hq (ht.ok _) hq (ht.at hx hy s) (Sub.refl _)⟩
def starT (t : Nat → Int) (q : Nat) : Int := if q < 16 then lfp (starF t q) else 0
def omegaT (t : Nat → Int) (q : Nat) : Int := if q < 16 then lfp (omegaF t q) else 0
theorem starT_at {t : Nat → Int} {q : Nat} (h : q < 16) : starT t q = lfp (starF t q) := by simp [starT, h]
theorem omegaT_at {t : Nat → Int} {q : Nat} (h : q < 16) : omegaT t q = lfp (omegaF t q) := by simp [omegaT, h]
theorem starT_ok {t : Nat → Int} (ht : Mon t) : Cond (starT t) := fun k => by
  unfold starT; split
  · exact lfp_ok (MonF.star ht (c_nat (by assumption)))
  · exact C.zero
theorem omegaT_ok {t : Nat → Int} (ht : Mon t) : Cond (omegaT t) := fun k => by
  unfold omegaT; split
  · exact lfp_ok (MonF.omega ht (c_nat (by assumption)))
  · exact C.zero
theorem Mon.star {t : Nat → Int} (ht : Mon t) : Mon (starT t) := Mon.of (starT_ok ht) fun p q hp hq s => by
  rw [starT_at hp, starT_at hq]
  have hQ := MonF.star ht (c_nat hq)
  refine lfp_least (MonF.star ht (c_nat hp)) (lfp_ok hQ) ?_
  have := or_mono (ht.ok (lfp (starF t q)).toNat) (c_nat hp) (ht.ok (lfp (starF t q)).toNat) (c_nat hq) (Sub.refl _) s
  exact this.trans (by have := lfp_fix hQ; unfold starF at this ⊢; rw [this]; exact Sub.refl _)
theorem Mon.omega {t : Nat → Int} (ht : Mon t) : Mon (omegaT t) := Mon.of (omegaT_ok ht) fun p q hp hq s => by
  rw [omegaT_at hp, omegaT_at hq]
  have hQ := MonF.omega ht (c_nat hq)
  refine lfp_least (MonF.omega ht (c_nat hp)) (lfp_ok hQ) ?_
  have := and_mono (ht.ok (lfp (omegaF t q)).toNat) (c_nat hp) (ht.ok (lfp (omegaF t q)).toNat) (c_nat hq) (Sub.refl _) s
  exact this.trans (by have := lfp_fix hQ; unfold omegaF at this ⊢; rw [this]; exact Sub.refl _)
theorem fwd_iter {r : Nat → Int} (hr : Cond r) {f g : Int → Int} (hf : MonF f) (hg : MonF g) (h : ∀ y z, C y → C z → Sub (dia r y) z → Sub (dia r (f y)) (g z)) : Sub (dia r (lfp f)) (lfp g) := by
  have : ∀ n, Sub (dia r (iter f n 0)) (lfp g) := fun n => by
    induction n with
    | zero => intro i hi hx
              obtain ⟨j, _, _, h2⟩ := (has_dia hr C.zero hi).1 hx
              simp [has_zero] at h2
    | succ n ih => have := h _ _ (iter_ok hf n) (lfp_ok hg) ih; rwa [lfp_fix hg] at this
  exact this 4
theorem fwd_star {r t u : Nat → Int} (hr : Cond r) (ht : Mon t) (hu : Mon u) (h : fwdT r t u = true) : fwdT r (starT t) (starT u) = true := by
  rw [fwd_sub hr ht hu] at h; rw [fwd_sub hr ht.star hu.star]
  intro p hp
  have hd := dia_ok r (p : Int)
  rw [starT_at hp, starT_at (lt16 hd), toNat_cast hd]
  refine fwd_iter hr (MonF.star ht (c_nat hp)) (MonF.star hu hd) fun y z hy hz s => ?_
  have h1 := h _ (lt16 hy)
  rw [toNat_cast hy] at h1
  exact (dia_or hr (ht.ok _) (c_nat hp)).trans (or_mono (dia_ok _ _) (dia_ok _ _) (hu.ok _) hd (h1.trans (hu.at (dia_ok _ _) hz s)) (Sub.refl _))
theorem fwd_omega {r t u : Nat → Int} (hr : Cond r) (ht : Mon t) (hu : Mon u) (h : fwdT r t u = true) : fwdT r (omegaT t) (omegaT u) = true := by
  rw [fwd_sub hr ht hu] at h; rw [fwd_sub hr ht.omega hu.omega]
  intro p hp
  have hd := dia_ok r (p : Int)
  rw [omegaT_at hp, omegaT_at (lt16 hd), toNat_cast hd]
  refine fwd_iter hr (MonF.omega ht (c_nat hp)) (MonF.omega hu hd) fun y z hy hz s => ?_
  have h1 := h _ (lt16 hy)
  rw [toNat_cast hy] at h1
  exact (dia_and hr (ht.ok _) (c_nat hp)).trans (and_mono (dia_ok _ _) (dia_ok _ _) (hu.ok _) hd (h1.trans (hu.at (dia_ok _ _) hz s)) (Sub.refl _))
end Go.Proofs.YtaeibhpkcikaaaaGreatDoor
