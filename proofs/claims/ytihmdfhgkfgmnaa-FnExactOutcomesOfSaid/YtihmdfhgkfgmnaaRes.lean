/- Plain laws of residuals and simulations of tables. No program in sight. -/
import Derived.Test.YtihmdfhgkfgmnaaSp11
import Derived.Test.YtihmdfhgkfgmnaaFam
namespace Go.Proofs.Ytihmdfhgkfgmnaa
set_option linter.unusedVariables false
set_option linter.unusedSimpArgs false
open Go.RowKit

theorem ref_sub {t u : Nat → Int} (ht : Cond t) (hu : Cond u) : refT t u = true ↔ ∀ p, p < 16 → Sub (t p) (u p) :=
  ⟨fun h p hp => (sub_dif (ht p) (hu p)).1 (refT_at h hp), fun h => refT_of fun k hk => (sub_dif (ht k) (hu k)).2 (h k hk)⟩
/-- a monotone table of conditions -/
structure Mon (f : Nat → Int) : Prop where
  ok : Cond f
  up : mono f = true
theorem Mon.sub {f : Nat → Int} (h : Mon f) {p q : Nat} (hp : p < 16) (hq : q < 16) (s : Sub p q) : Sub (f p) (f q) := (mono_sub h.ok).1 h.up p q hp hq s
theorem Mon.at {f : Nat → Int} (h : Mon f) {p q : Int} (hp : C p) (hq : C q) (s : Sub p q) : Sub (f p.toNat) (f q.toNat) := mono_toNat h.ok h.up hp hq s
theorem Mon.of {f : Nat → Int} (h : Cond f) (s : ∀ p q : Nat, p < 16 → q < 16 → Sub p q → Sub (f p) (f q)) : Mon f := ⟨h, (mono_sub h).2 s⟩
theorem Mon.tr {f : Nat → Int} (h : Mon f) : okTr (txt 16 f) = true := okTr_of h.ok h.up
theorem Mon.tx {f : Nat → Int} (h : Mon f) : okTxt 16 (txt 16 f) = true := okTxt_txt 16 f h.ok
theorem mon_val {s : ByteArray} (h : okTr s = true) : Mon (val s) := ⟨val_ok s, okTr_mono h⟩
theorem txt_val {n : Nat} {s : ByteArray} (h : okTxt n s = true) : txt n (val s) = s :=
  txt_eq (okTxt_txt n _ (val_ok s)) h fun k hk => val_txt n _ (val_ok s) k hk
theorem Mon.then {t u : Nat → Int} (ht : Mon t) (hu : Mon u) : Mon (thenT t u) := ⟨thenT_ok ht.ok u, mono_then ht.ok hu.ok ht.up hu.up⟩
theorem Mon.dual {t : Nat → Int} (ht : Mon t) : Mon (dualT t) := ⟨dualT_ok ht.ok, mono_dual ht.ok ht.up⟩
theorem Mon.angel {r : Nat → Int} (hr : Cond r) : Mon (angelT r) := ⟨angelT_ok r, mono_angel hr⟩
theorem Mon.demon {r : Nat → Int} (hr : Cond r) : Mon (demonT r) := ⟨demonT_ok r, mono_demon hr⟩
theorem Mon.congr {f g : Nat → Int} (h : Mon f) (hg : Cond g) (e : Eq16 f g) : Mon g := ⟨hg, by rw [← mono_congr e]; exact h.up⟩
theorem sub_and {p q x : Int} (hp : C p) (hq : C q) : Sub x (bits .and .i64 p q) ↔ Sub x p ∧ Sub x q := by
  constructor
  · intro h
    exact ⟨fun i hi hx => by have := h i hi hx; rw [has_and hp.fit16 hq.fit16] at this; simp at this; exact this.1, fun i hi hx => by have := h i hi hx; rw [has_and hp.fit16 hq.fit16] at this; simp at this; exact this.2⟩
  · rintro ⟨a, b⟩ i hi hx
    rw [has_and hp.fit16 hq.fit16, a i hi hx, b i hi hx]; rfl
theorem or_sub {p q x : Int} (hp : C p) (hq : C q) : Sub (bits .or .i64 p q) x ↔ Sub p x ∧ Sub q x := by
  constructor
  · intro h
    exact ⟨fun i hi hx => h i hi (by rw [has_or hp.fit16 hq.fit16, hx]; rfl), fun i hi hx => h i hi (by rw [has_or hp.fit16 hq.fit16, hx, Bool.or_true])⟩
  · rintro ⟨a, b⟩ i hi hx
    rw [has_or hp.fit16 hq.fit16, Bool.or_eq_true] at hx
    exact hx.elim (a i hi) (b i hi)
theorem and_mono {p q p' q' : Int} (hp : C p) (hq : C q) (hp' : C p') (hq' : C q') (a : Sub p p') (b : Sub q q') : Sub (bits .and .i64 p q) (bits .and .i64 p' q') :=
  have h := (sub_and hp hq).1 (Sub.refl _)
  (sub_and hp' hq').2 ⟨h.1.trans a, h.2.trans b⟩
theorem or_mono {p q p' q' : Int} (hp : C p) (hq : C q) (hp' : C p') (hq' : C q') (a : Sub p p') (b : Sub q q') : Sub (bits .or .i64 p q) (bits .or .i64 p' q') :=
  have h := (or_sub hp' hq').1 (Sub.refl _)
  (or_sub hp hq).2 ⟨a.trans h.1, b.trans h.2⟩
theorem Mon.meet {t u : Nat → Int} (ht : Mon t) (hu : Mon u) : Mon (meetT t u) :=
  Mon.of (meetT_ok ht.ok hu.ok) fun p q hp hq s => and_mono (ht.ok p) (hu.ok p) (ht.ok q) (hu.ok q) (ht.sub hp hq s) (hu.sub hp hq s)
theorem Mon.join {t u : Nat → Int} (ht : Mon t) (hu : Mon u) : Mon (joinT t u) :=
  Mon.of (joinT_ok ht.ok hu.ok) fun p q hp hq s => or_mono (ht.ok p) (hu.ok p) (ht.ok q) (hu.ok q) (ht.sub hp hq s) (hu.sub hp hq s)
theorem assertT_ok {p : Int} (hp : C p) : ∀ k, k < 16 → C (assertT p k) := fun k hk => C.and hp (c_nat hk)
/-- the table that does nothing -/
def skipT (k : Nat) : Int := if k < 16 then (k : Int) else 0
theorem skipT_ok : Cond skipT := fun k => by unfold skipT; split <;> omega
theorem skipT_at {k : Nat} (h : k < 16) : skipT k = k := by simp [skipT, h]
theorem skipT_c {p : Int} (h : C p) : skipT p.toNat = p := by rw [skipT_at (lt16 h), toNat_cast h]
theorem Mon.skip : Mon skipT := Mon.of skipT_ok fun p q hp hq s => by rw [skipT_at hp, skipT_at hq]; exact s
/-- asserting p, told below sixteen alone -/
def assT (p : Int) (k : Nat) : Int := if k < 16 then bits .and .i64 p (k : Int) else 0
theorem assT_at {p : Int} {k : Nat} (h : k < 16) : assT p k = bits .and .i64 p (k : Int) := by simp [assT, h]
theorem assT_ok {p : Int} (hp : C p) : Cond (assT p) := fun k => by
  unfold assT; split
  · exact C.and hp (c_nat (by assumption))
  · exact C.zero
theorem Mon.ass {p : Int} (hp : C p) : Mon (assT p) := Mon.of (assT_ok hp) fun a b ha hb s => by
  rw [assT_at ha, assT_at hb]; exact and_mono hp (c_nat ha) hp (c_nat hb) (Sub.refl _) s
theorem assT_eq (p : Int) : Eq16 (assertT p) (assT p) := fun k hk => by rw [assT_at hk]; rfl
theorem and_all {p : Int} (hp : C p) : bits .and .i64 15 p = p := C.ext (C.and C.all hp) hp fun i hi => by rw [has_and C.all.fit16 hp.fit16, has_15 hi]; rfl
theorem ass_all : Eq16 (assertT 15) skipT := fun k hk => by rw [skipT_at hk]; exact and_all (c_nat hk)

/-! ### residuals -/
theorem has_most {t u : Nat → Int} (ht : Cond t) (hu : Cond u) {p i : Nat} (hp : p < 16) (hi : i < 4) : has (mostT t u p) i = true ↔ ∀ q, q < 16 → Sub p (t q) → has (u q) i = true := by
  unfold mostT
  rw [has_andf _ _ _ (fun k _ => C.fit (hu k)) i hi]
  simp only [List.all_eq_true, List.mem_range, Bool.or_eq_true, Bool.not_eq_true', beq_eq_false_iff_ne, ne_eq]
  constructor
  · intro h q hq s
    exact (h q hq).resolve_left fun hn => hn ((sub_dif (c_nat hp) (ht q)).2 s)
  · intro h q hq
    by_cases e : bits .andNot .i64 (p : Int) (t q) = 0
    · exact .inr (h q hq ((sub_dif (c_nat hp) (ht q)).1 e))
    · exact .inl e
theorem has_least {t u : Nat → Int} (ht : Cond t) (hu : Cond u) {p i : Nat} (hp : p < 16) : has (leastT t u p) i = true ↔ ∃ q, q < 16 ∧ Sub (t q) p ∧ has (u q) i = true := by
  unfold leastT
  rw [has_orf (m := 4) (by decide) _ _ _ (fun k _ => C.fit (hu k)) i]
  simp only [List.any_eq_true, List.mem_range, Bool.and_eq_true, beq_iff_eq]
  constructor
  · rintro ⟨q, hq, e, h⟩
    exact ⟨q, hq, (sub_dif (ht q) (c_nat hp)).1 e, h⟩
  · rintro ⟨q, hq, s, h⟩
    exact ⟨q, hq, (sub_dif (ht q) (c_nat hp)).2 s, h⟩
theorem sub_most {t u : Nat → Int} (ht : Cond t) (hu : Cond u) {p : Nat} (hp : p < 16) {x : Int} : Sub x (mostT t u p) ↔ ∀ q, q < 16 → Sub p (t q) → Sub x (u q) :=
  ⟨fun h q hq s i hi hx => (has_most ht hu hp hi).1 (h i hi hx) q hq s, fun h i hi hx => (has_most ht hu hp hi).2 fun q hq s => h q hq s i hi hx⟩
theorem least_sub {t u : Nat → Int} (ht : Cond t) (hu : Cond u) {p : Nat} (hp : p < 16) {x : Int} : Sub (leastT t u p) x ↔ ∀ q, q < 16 → Sub (t q) p → Sub (u q) x :=
  ⟨fun h q hq s i hi hx => h i hi ((has_least ht hu hp).2 ⟨q, hq, s, hx⟩), fun h i hi hx => by
    obtain ⟨q, hq, s, hx⟩ := (has_least ht hu hp).1 hx
    exact h q hq s i hi hx⟩
theorem Mon.most {t u : Nat → Int} (ht : Cond t) (hu : Cond u) : Mon (mostT t u) :=
  Mon.of (mostT_ok hu) fun _ _ hp hq s => (sub_most ht hu hq).2 fun k hk h => (sub_most ht hu hp).1 (Sub.refl _) k hk (s.trans h)
theorem Mon.least {t u : Nat → Int} (ht : Cond t) (hu : Cond u) : Mon (leastT t u) :=
  Mon.of (leastT_ok hu) fun _ _ hp hq s => (least_sub ht hu hp).2 fun k hk h => (least_sub ht hu hq).1 (Sub.refl _) k hk (h.trans s)
theorem then_at {t u : Nat → Int} (p : Nat) : thenT t u p = t (u p).toNat := rfl
theorem up_nat {f : Nat → Int} (h : Mon f) {p : Nat} {q : Int} (hp : p < 16) (hq : C q) (s : Sub p q) : Sub (f p) (f q.toNat) := by
  have := h.at (c_nat hp) hq s; simpa using this
theorem dn_nat {f : Nat → Int} (h : Mon f) {p : Int} {q : Nat} (hp : C p) (hq : q < 16) (s : Sub p q) : Sub (f p.toNat) (f q) := by
  have := h.at hp (c_nat hq) s; simpa using this
theorem ref_bool {a b c d : Nat → Int} (h : refT a b = true ↔ refT c d = true) : refT a b = refT c d := by rw [Bool.eq_iff_iff]; exact h
theorem law_most {t u v : Nat → Int} (ht : Mon t) (hu : Mon u) (hv : Mon v) : refT (thenT v t) u = refT v (mostT t u) := ref_bool <| by
  rw [ref_sub (thenT_ok hv.ok t) hu.ok, ref_sub hv.ok (mostT_ok hu.ok)]
  constructor
  · intro h p hp
    exact (sub_most ht.ok hu.ok hp).2 fun q hq s => (up_nat hv hp (ht.ok q) s).trans (h q hq)
  · intro h p hp
    have h1 := (sub_most ht.ok hu.ok (lt16 (ht.ok p))).1 (h _ (lt16 (ht.ok p))) p hp
    rw [toNat_cast (ht.ok p)] at h1
    exact h1 (Sub.refl _)
theorem law_least {t u v : Nat → Int} (ht : Mon t) (hu : Mon u) (hv : Mon v) : refT u (thenT v t) = refT (leastT t u) v := ref_bool <| by
  rw [ref_sub hu.ok (thenT_ok hv.ok t), ref_sub (leastT_ok hu.ok) hv.ok]
  constructor
  · intro h p hp
    exact (least_sub ht.ok hu.ok hp).2 fun q hq s => (h q hq).trans (dn_nat hv (ht.ok q) hp s)
  · intro h p hp
    have h1 := (least_sub ht.ok hu.ok (lt16 (ht.ok p))).1 (h _ (lt16 (ht.ok p))) p hp
    rw [toNat_cast (ht.ok p)] at h1
    exact h1 (Sub.refl _)
theorem ref_refl {t : Nat → Int} (ht : Cond t) : refT t t = true := (ref_sub ht ht).2 fun _ _ => Sub.refl _
theorem ref_trans {t u v : Nat → Int} (ht : Cond t) (hu : Cond u) (hv : Cond v) (a : refT t u = true) (b : refT u v = true) : refT t v = true :=
  (ref_sub ht hv).2 fun p hp => ((ref_sub ht hu).1 a p hp).trans ((ref_sub hu hv).1 b p hp)
theorem ref_eq {t u : Nat → Int} (ht : Cond t) (hu : Cond u) (a : refT t u = true) (b : refT u t = true) : Eq16 t u := fun p hp =>
  Sub.antisymm (ht p) (hu p) ((ref_sub ht hu).1 a p hp) ((ref_sub hu ht).1 b p hp)
theorem law_most_self {t u : Nat → Int} (ht : Mon t) (hu : Mon u) : refT (thenT (mostT t u) t) u = true := by
  rw [law_most ht hu (Mon.most ht.ok hu.ok)]; exact ref_refl (mostT_ok hu.ok)
theorem law_least_self {t u : Nat → Int} (ht : Mon t) (hu : Mon u) : refT u (thenT (leastT t u) t) = true := by
  rw [law_least ht hu (Mon.least ht.ok hu.ok)]; exact ref_refl (leastT_ok hu.ok)
theorem sub_notp_iff {p q : Int} (hp : C p) (hq : C q) : Sub (notp q) (notp p) ↔ Sub p q :=
  ⟨fun h => by have := sub_notp (notp_ok hq) (notp_ok hp) h; rwa [notp_notp hp, notp_notp hq] at this, sub_notp hp hq⟩
theorem dual_dual {t : Nat → Int} (ht : Cond t) : Eq16 (dualT (dualT t)) t := fun p hp => by
  unfold dualT
  rw [toNat_cast (notp_ok (c_nat hp)), notp_notp (c_nat hp), notp_notp (ht _)]
  simp
theorem ref_dual {t u : Nat → Int} (ht : Cond t) (hu : Cond u) : refT (dualT u) (dualT t) = refT t u := ref_bool <| by
  rw [ref_sub (dualT_ok hu) (dualT_ok ht), ref_sub ht hu]
  constructor
  · intro h p hp
    have h1 := h _ (lt16 (notp_ok (c_nat hp)))
    unfold dualT at h1
    rw [toNat_cast (notp_ok (c_nat hp)), notp_notp (c_nat hp), sub_notp_iff (ht _) (hu _)] at h1
    simpa using h1
  · intro h p hp
    exact (sub_notp_iff (ht _) (hu _)).2 (h _ (lt16 (notp_ok (c_nat hp))))
theorem law_dual_most {t u : Nat → Int} (ht : Cond t) (hu : Cond u) : Eq16 (dualT (mostT (dualT t) (dualT u))) (leastT t u) := fun p hp => by
  have hn := notp_ok (c_nat hp)
  refine C.ext (dualT_ok (mostT_ok (dualT_ok hu)) p) (leastT_ok hu p) fun i hi => ?_
  have e : dualT (mostT (dualT t) (dualT u)) p = notp (mostT (dualT t) (dualT u) (notp (p : Int)).toNat) := rfl
  rw [e, has_notp (mostT_ok (dualT_ok hu) _) hi, Bool.eq_iff_iff, Bool.not_eq_true', Bool.eq_false_iff, ne_eq, has_most (dualT_ok ht) (dualT_ok hu) (lt16 hn) hi, has_least ht hu hp, toNat_cast hn]
  constructor
  · intro h
    refine Classical.byContradiction fun hc => h fun q hq s => ?_
    have h1 : Sub (t (notp (q : Int)).toNat) p := (sub_notp_iff (ht _) (c_nat hp)).1 s
    show has (notp (u (notp (q : Int)).toNat)) i = true
    rw [has_notp (hu _) hi]
    cases hh : has (u (notp (q : Int)).toNat) i
    · rfl
    · exact (hc ⟨_, lt16 (notp_ok (c_nat hq)), h1, hh⟩).elim
  · rintro ⟨q, hq, s, hx⟩ h
    have h1 := h (notp (q : Int)).toNat (lt16 (notp_ok (c_nat hq)))
    have e2 : (notp (((notp (q : Int)).toNat : Nat) : Int)).toNat = q := by rw [toNat_cast (notp_ok (c_nat hq)), notp_notp (c_nat hq)]; simp
    unfold dualT at h1
    rw [e2] at h1
    have h2 := h1 ((sub_notp_iff (ht _) (c_nat hp)).2 s)
    rw [has_notp (hu _) hi, hx] at h2
    cases h2
theorem law_most_then {t u v : Nat → Int} (ht : Mon t) (hu : Mon u) (hv : Mon v) : Eq16 (mostT (thenT v t) u) (mostT v (mostT t u)) := fun p hp =>
  Sub.antisymm (mostT_ok hu.ok p) (mostT_ok (mostT_ok hu.ok) p)
    ((sub_most hv.ok (mostT_ok hu.ok) hp).2 fun q hq s => (sub_most ht.ok hu.ok hq).2 fun k hk s2 =>
      (sub_most (thenT_ok hv.ok t) hu.ok hp).1 (Sub.refl _) k hk (s.trans (up_nat hv hq (ht.ok k) s2)))
    ((sub_most (thenT_ok hv.ok t) hu.ok hp).2 fun k hk s => by
      have h1 := (sub_most (x := mostT v (mostT t u) p) hv.ok (mostT_ok (t := t) hu.ok) hp).1 (Sub.refl _) (t k).toNat (lt16 (ht.ok k)) s
      refine (sub_most ht.ok hu.ok (lt16 (ht.ok k))).1 h1 k hk ?_
      rw [toNat_cast (ht.ok k)]; exact Sub.refl _)
theorem law_least_then {t u v : Nat → Int} (ht : Mon t) (hu : Mon u) (hv : Mon v) : Eq16 (leastT (thenT v t) u) (leastT v (leastT t u)) := fun p hp =>
  Sub.antisymm (leastT_ok hu.ok p) (leastT_ok (leastT_ok hu.ok) p)
    ((least_sub (thenT_ok hv.ok t) hu.ok hp).2 fun k hk s => by
      have h1 := (least_sub (x := leastT v (leastT t u) p) hv.ok (leastT_ok (t := t) hu.ok) hp).1 (Sub.refl _) (t k).toNat (lt16 (ht.ok k)) s
      refine ((least_sub ht.ok hu.ok (lt16 (ht.ok k))).1 (Sub.refl _) k hk ?_).trans h1
      rw [toNat_cast (ht.ok k)]; exact Sub.refl _)
    ((least_sub hv.ok (leastT_ok hu.ok) hp).2 fun q hq s => (least_sub ht.ok hu.ok hq).2 fun k hk s2 =>
      (least_sub (thenT_ok hv.ok t) hu.ok hp).1 (Sub.refl _) k hk ((dn_nat hv (ht.ok k) hq s2).trans s))
theorem ref_then {t t' u : Nat → Int} (ht : Cond t) (ht' : Cond t') (hu : Cond u) (h : refT t t' = true) : refT (thenT t u) (thenT t' u) = true :=
  (ref_sub (thenT_ok ht u) (thenT_ok ht' u)).2 fun p _ => (ref_sub ht ht').1 h _ (lt16 (hu p))
theorem ref_then' {t u u' : Nat → Int} (ht : Mon t) (hu : Cond u) (hu' : Cond u') (h : refT u u' = true) : refT (thenT t u) (thenT t u') = true :=
  (ref_sub (thenT_ok ht.ok u) (thenT_ok ht.ok u')).2 fun p hp => ht.at (hu p) (hu' p) ((ref_sub hu hu').1 h p hp)
theorem law_go {t v : Nat → Int} (ht : Mon t) (hv : Mon v) : Eq16 (thenT (mostT t (thenT v t)) t) (thenT v t) := by
  have hvt := hv.then ht
  refine ref_eq (thenT_ok (mostT_ok hvt.ok) t) hvt.ok (law_most_self ht hvt) ?_
  refine ref_then hv.ok (mostT_ok hvt.ok) ht.ok ?_
  rw [← law_most ht hvt hv]; exact ref_refl hvt.ok
theorem then_skip {u : Nat → Int} : Eq16 (thenT u skipT) u := fun p hp => by rw [then_at, skipT_at hp]; simp
theorem skip_then {u : Nat → Int} (hu : Cond u) : Eq16 (thenT skipT u) u := fun p _ => by rw [then_at, skipT_c (hu p)]
theorem law_go_skip {u : Nat → Int} (hu : Mon u) : Eq16 (thenT (mostT skipT u) skipT) u := by
  have h := law_go Mon.skip hu
  have e : Eq16 (mostT skipT (thenT u skipT)) (mostT skipT u) := (Eq16.refl _).most then_skip
  exact ((e.symm.then (Eq16.refl skipT) skipT_ok).trans h).trans then_skip

/-! ### angel and demon of a relation and of the turned one -/
theorem has_turn {r : Nat → Int} {s t : Nat} (ht : t < 4) : has (turn r s) t = has (r t) s := by
  unfold turn; rw [has_mk _ (by decide)]; simp [ht]
theorem gal {r : Nat → Int} (hr : Cond r) {p q : Int} (hp : C p) (hq : C q) : Sub (dia r p) q ↔ Sub p (box (turn r) q) := by
  constructor
  · intro h j hj hpj
    refine (has_box (turn_ok r) hq hj).2 fun i hi hx => h i hi ?_
    rw [has_turn hi] at hx
    exact (has_dia hr hp hi).2 ⟨j, hj, hx, hpj⟩
  · intro h i hi hx
    obtain ⟨j, hj, h1, h2⟩ := (has_dia hr hp hi).1 hx
    exact (has_box (turn_ok r) hq hj).1 (h j hj h2) i hi (by rw [has_turn hi]; exact h1)
theorem gal' {r : Nat → Int} (hr : Cond r) {p q : Int} (hp : C p) (hq : C q) : Sub (dia (turn r) p) q ↔ Sub p (box r q) := by
  constructor
  · intro h j hj hpj
    refine (has_box hr hq hj).2 fun i hi hx => h i hi ?_
    exact (has_dia (turn_ok r) hp hi).2 ⟨j, hj, by rw [has_turn hj]; exact hx, hpj⟩
  · intro h i hi hx
    obtain ⟨j, hj, h1, h2⟩ := (has_dia (turn_ok r) hp hi).1 hx
    rw [has_turn hj] at h1
    exact (has_box hr hq hj).1 (h j hj h2) i hi h1
theorem angel_at (r : Nat → Int) {p : Int} (h : C p) : angelT r p.toNat = dia r p := by unfold angelT; rw [toNat_cast h]
theorem demon_at (r : Nat → Int) {p : Int} (h : C p) : demonT r p.toNat = box r p := by unfold demonT; rw [toNat_cast h]
theorem law_behind_angel {r u v : Nat → Int} (hr : Cond r) (hu : Mon u) (hv : Mon v) : refT (thenT (angelT r) v) u = refT v (thenT (demonT (turn r)) u) := ref_bool <| by
  rw [ref_sub (thenT_ok (angelT_ok r) v) hu.ok, ref_sub hv.ok (thenT_ok (demonT_ok _) u)]
  simp only [then_at, angel_at r (hv.ok _), demon_at _ (hu.ok _)]
  exact ⟨fun h p hp => (gal hr (hv.ok p) (hu.ok p)).1 (h p hp), fun h p hp => (gal hr (hv.ok p) (hu.ok p)).2 (h p hp)⟩
theorem law_behind_demon {r u v : Nat → Int} (hr : Cond r) (hu : Mon u) (hv : Mon v) : refT u (thenT (demonT r) v) = refT (thenT (angelT (turn r)) u) v := ref_bool <| by
  rw [ref_sub hu.ok (thenT_ok (demonT_ok r) v), ref_sub (thenT_ok (angelT_ok _) u) hv.ok]
  simp only [then_at, angel_at _ (hu.ok _), demon_at r (hv.ok _)]
  exact ⟨fun h p hp => (gal' hr (hu.ok p) (hv.ok p)).2 (h p hp), fun h p hp => (gal' hr (hu.ok p) (hv.ok p)).1 (h p hp)⟩

/-! ### simulations -/
theorem law_fwd {r t u : Nat → Int} (hr : Cond r) (ht : Mon t) (hu : Mon u) : fwdT r t u = refT (leastT (angelT r) (thenT (angelT r) t)) u :=
  law_least (Mon.angel hr) ((Mon.angel hr).then ht) hu
theorem law_fwd' {r t u : Nat → Int} (hr : Cond r) (ht : Mon t) (hu : Mon u) : fwdT r t u = refT t (thenT (demonT (turn r)) (thenT u (angelT r))) :=
  law_behind_angel hr (hu.then (Mon.angel hr)) ht
theorem fwd_least {r t : Nat → Int} (hr : Cond r) (ht : Mon t) : fwdT r t (leastT (angelT r) (thenT (angelT r) t)) = true :=
  law_least_self (Mon.angel hr) ((Mon.angel hr).then ht)
theorem fwd_sub {r t u : Nat → Int} (hr : Cond r) (ht : Mon t) (hu : Mon u) : fwdT r t u = true ↔ ∀ p, p < 16 → Sub (dia r (t p)) (u (dia r (p : Int)).toNat) := by
  unfold fwdT
  rw [ref_sub (thenT_ok (angelT_ok r) t) (thenT_ok hu.ok _)]
  simp only [then_at, angel_at r (ht.ok _)]
  exact Iff.rfl
theorem dia_mono {r : Nat → Int} (hr : Cond r) {p q : Int} (hp : C p) (hq : C q) (s : Sub p q) : Sub (dia r p) (dia r q) := fun i hi h => by
  obtain ⟨j, hj, h1, h2⟩ := (has_dia hr hp hi).1 h
  exact (has_dia hr hq hi).2 ⟨j, hj, h1, s j hj h2⟩
theorem box_mono {r : Nat → Int} (hr : Cond r) {p q : Int} (hp : C p) (hq : C q) (s : Sub p q) : Sub (box r p) (box r q) := fun i hi h =>
  (has_box hr hq hi).2 (((has_box hr hp hi).1 h).trans s)
theorem dia_or {r : Nat → Int} (hr : Cond r) {p q : Int} (hp : C p) (hq : C q) : Sub (dia r (bits .or .i64 p q)) (bits .or .i64 (dia r p) (dia r q)) := fun i hi h => by
  obtain ⟨j, hj, h1, h2⟩ := (has_dia hr (C.or hp hq) hi).1 h
  rw [has_or hp.fit16 hq.fit16, Bool.or_eq_true] at h2
  rw [has_or (C.fit16 (dia_ok _ _)) (C.fit16 (dia_ok _ _)), Bool.or_eq_true]
  exact h2.imp (fun h2 => (has_dia hr hp hi).2 ⟨j, hj, h1, h2⟩) (fun h2 => (has_dia hr hq hi).2 ⟨j, hj, h1, h2⟩)
theorem dia_and {r : Nat → Int} (hr : Cond r) {p q : Int} (hp : C p) (hq : C q) : Sub (dia r (bits .and .i64 p q)) (bits .and .i64 (dia r p) (dia r q)) :=
  have h := (sub_and hp hq).1 (Sub.refl _)
  (sub_and (dia_ok _ _) (dia_ok _ _)).2 ⟨dia_mono hr (C.and hp hq) hp h.1, dia_mono hr (C.and hp hq) hq h.2⟩
theorem box_and {r : Nat → Int} (hr : Cond r) {p q : Int} (hp : C p) (hq : C q) : Sub (bits .and .i64 (box r p) (box r q)) (box r (bits .and .i64 p q)) := fun i hi h => by
  rw [has_and (C.fit16 (box_ok _ _)) (C.fit16 (box_ok _ _)), Bool.and_eq_true, has_box hr hp hi, has_box hr hq hi] at h
  exact (has_box hr (C.and hp hq) hi).2 ((sub_and hp hq).2 h)
theorem box_or {r : Nat → Int} (hr : Cond r) {p q : Int} (hp : C p) (hq : C q) : Sub (bits .or .i64 (box r p) (box r q)) (box r (bits .or .i64 p q)) :=
  have h := (or_sub hp hq).1 (Sub.refl _)
  (or_sub (box_ok _ _) (box_ok _ _)).2 ⟨box_mono hr hp (C.or hp hq) h.1, box_mono hr hq (C.or hp hq) h.2⟩
theorem fwd_then {r t u v w : Nat → Int} (hr : Cond r) (ht : Mon t) (hu : Mon u) (hv : Mon v) (hw : Mon w) (h : fwdT r t u = true) (k : fwdT r v w = true) : fwdT r (thenT t v) (thenT u w) = true := by
  rw [fwd_sub hr ht hu] at h; rw [fwd_sub hr hv hw] at k; rw [fwd_sub hr (ht.then hv) (hu.then hw)]
  intro p hp
  have h1 := h _ (lt16 (hv.ok p))
  rw [toNat_cast (hv.ok p)] at h1
  exact h1.trans (hu.at (dia_ok _ _) (hw.ok _) (k p hp))
theorem fwd_meet {r t u v w : Nat → Int} (hr : Cond r) (ht : Mon t) (hu : Mon u) (hv : Mon v) (hw : Mon w) (h : fwdT r t u = true) (k : fwdT r v w = true) : fwdT r (meetT t v) (meetT u w) = true := by
  rw [fwd_sub hr ht hu] at h; rw [fwd_sub hr hv hw] at k; rw [fwd_sub hr (ht.meet hv) (hu.meet hw)]
  exact fun p hp => (dia_and hr (ht.ok p) (hv.ok p)).trans (and_mono (dia_ok _ _) (dia_ok _ _) (hu.ok _) (hw.ok _) (h p hp) (k p hp))
theorem fwd_join {r t u v w : Nat → Int} (hr : Cond r) (ht : Mon t) (hu : Mon u) (hv : Mon v) (hw : Mon w) (h : fwdT r t u = true) (k : fwdT r v w = true) : fwdT r (joinT t v) (joinT u w) = true := by
  rw [fwd_sub hr ht hu] at h; rw [fwd_sub hr hv hw] at k; rw [fwd_sub hr (ht.join hv) (hu.join hw)]
  exact fun p hp => (dia_or hr (ht.ok p) (hv.ok p)).trans (or_mono (dia_ok _ _) (dia_ok _ _) (hu.ok _) (hw.ok _) (h p hp) (k p hp))
/-- asserting what p is concretely -/
theorem law_ass {r : Nat → Int} (hr : Cond r) {p : Int} (hp : C p) : refT (leastT (angelT r) (thenT (angelT r) (assT p))) (assT (dia r p)) = true := by
  rw [← law_fwd hr (Mon.ass hp) (Mon.ass (dia_ok r p)), fwd_sub hr (Mon.ass hp) (Mon.ass (dia_ok r p))]
  intro q hq
  rw [assT_at hq, assT_at (lt16 (dia_ok r _)), toNat_cast (dia_ok r _)]
  exact dia_and hr hp (c_nat hq)
end Go.Proofs.Ytihmdfhgkfgmnaa
