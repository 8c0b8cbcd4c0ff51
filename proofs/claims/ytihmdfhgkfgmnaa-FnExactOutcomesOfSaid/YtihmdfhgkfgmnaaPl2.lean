/- Plays: plain facts. No function in sight. -/
import Derived.Test.YtihmdfhgkfgmnaaSpP6
namespace Go.Proofs.Ytihmdfhgkfgmnaa
set_option linter.unusedVariables false
set_option linter.unusedSimpArgs false
open Go.RowKit Go.Shelf

theorem opts_lt {t : Ct} {s k : Nat} (h : k ∈ t.opts s) : k < 4 := by
  cases t
  · simp only [Ct.opts, List.mem_filter, List.mem_range] at h; exact h.1
  · simp [Ct.opts] at h; omega
  · simp [Ct.opts] at h; omega
theorem opts_le (t : Ct) (s : Nat) : (t.opts s).length ≤ 4 := by
  cases t
  · exact filt_le _ 4
  · simp [Ct.opts]
  · simp [Ct.opts]
theorem chose_lt {t : Ct} {s k : Nat} (hs : s < 4) (hk : k ∈ t.opts s) : (t.chose s k).1 < 4 := by
  have h4 := opts_lt hk
  cases t
  · exact h4
  · exact hs
  · exact hs
theorem decB_toNat {k : Nat} (h : k < 4) : (decB k).toNat = 48 + k := by
  unfold decB
  rw [UInt8.toNat_ofNat']
  omega
theorem chc_decB {k : Nat} (h : k < 4) : chc (decB k) = (k : Int) := by unfold chc; rw [decB_toNat h]; omega
theorem decB_of {c : UInt8} {k : Nat} (h : chc c = (k : Int)) (hk : k < 4) : c = decB k := by
  apply UInt8.toNat_inj.1
  rw [decB_toNat hk]
  unfold chc at h; omega
theorem bt_optsB (l : List Nat) (j : Nat) (hj : j < l.length) : bt (optsB l) j = decB l[j] := by
  simp [bt, optsB, List.getD_eq_getElem?_getD, hj]
theorem isOpt_iff {l : List Nat} {c : UInt8} : isOpt l c = true ↔ ∃ k ∈ l, chc c = (k : Int) := by simp [isOpt]
theorem isOpt_find {l : List Nat} (hl : ∀ k ∈ l, k < 4) (c : UInt8) : decide (0 ≤ firstIdx (optsB l) c) = isOpt l c := by
  rw [Bool.eq_iff_iff, decide_eq_true_iff, isOpt_iff]
  constructor
  · intro h
    refine Classical.byContradiction fun hn => ?_
    have : firstIdx (optsB l) c = -1 := firstIdx_none _ _ fun j hj e => hn ?_
    · omega
    · rw [optsB_size] at hj
      rw [bt_optsB l j hj] at e
      have hm := List.getElem_mem hj
      exact ⟨l[j], hm, by rw [← e]; exact chc_decB (hl _ hm)⟩
  · rintro ⟨k, hk, e⟩
    have e2 := decB_of e (hl k hk)
    obtain ⟨j, hj, rfl⟩ := List.getElem_of_mem hk
    refine Classical.byContradiction fun hn => ?_
    unfold firstIdx at hn
    cases hf : (List.range (optsB l).size).find? (fun i => (optsB l)[i]! == c) with
    | some i => rw [hf] at hn; exact hn (Int.natCast_nonneg i)
    | none =>
      rw [List.find?_eq_none] at hf
      refine hf j (by rw [optsB_size]; simpa using hj) ?_
      have hs : j < (optsB l).size := by rw [optsB_size]; exact hj
      rw [getElem!_pos (optsB l) j hs, bt_get (optsB l) j hs, bt_optsB l j hj, e2]
      simp
theorem play_end {n s : Nat} {ts : List Ct} {m : Nat} {us : List Ct} {e : Fin} (h : run n s ts = (m, us, e)) (he : e ≠ .pick) (cs : List UInt8) (k : Nat) : playA cs n s ts k = ⟨m, s, us, k, .fin e⟩ := by
  cases cs with
  | nil =>
    cases e <;> first | exact absurd rfl he | simp only [playA, h]
  | cons c cs =>
    cases us <;> cases e <;> first | exact absurd rfl he | simp only [playA, h]
theorem play_asks {n s : Nat} {ts : List Ct} {m : Nat} {us : List Ct} (h : run n s ts = (m, us, .pick)) (k : Nat) : playA [] n s ts k = ⟨m, s, us, k, .asks⟩ := by simp only [playA, h]
theorem play_bad {n s : Nat} {ts : List Ct} {m : Nat} {t : Ct} {us : List Ct} (h : run n s ts = (m, t :: us, .pick)) {c : UInt8} (hc : isOpt (t.opts s) c = false) (cs : List UInt8) (k : Nat) : playA (c :: cs) n s ts k = ⟨m, s, t :: us, k, .bad⟩ := by
  simp only [playA, h, hc]; rfl
theorem play_on {n s : Nat} {ts : List Ct} {m : Nat} {t : Ct} {us : List Ct} (h : run n s ts = (m, t :: us, .pick)) {c : UInt8} {d : Nat} (hd : d ∈ t.opts s) (hc : chc c = (d : Int)) (cs : List UInt8) (k : Nat) :
    playA (c :: cs) n s ts k = playA cs (m - 1) (t.chose s d).1 ((t.chose s d).2 ++ us) (k + 1) := by
  have hi : isOpt (t.opts s) c = true := isOpt_iff.2 ⟨d, hd, hc⟩
  have e : (chc c).toNat = d := by rw [hc]; rfl
  simp only [playA, h, hi, e, if_true]
theorem fit_run {n s : Nat} {ts : List Ct} (h : FitC ts) (hl : ts.length + n ≤ 1000) : FitC (run n s ts).2.1 ∧ (run n s ts).2.1.length + (run n s ts).1 ≤ 1000 := by
  induction n generalizing ts with
  | zero =>
    cases ts with
    | nil => exact ⟨h, hl⟩
    | cons t ts => exact ⟨h, hl⟩
  | succ n ih =>
    cases ts with
    | nil => exact ⟨h, hl⟩
    | cons t ts =>
      cases hn : t.next s with
      | go l =>
        rw [run_go hn]
        have := h.next hn
        exact ih this.1 (by rw [List.length_append]; simp at hl; omega)
      | stop a => rw [run_stop hn]; exact ⟨h, hl⟩
      | pick =>
        cases ho : (t.opts s).isEmpty
        · rw [run_pick2 hn ho]; exact ⟨h, hl⟩
        · rw [run_pick1 hn ho]; exact ⟨h, hl⟩
theorem fit_chose {t : Ct} {us : List Ct} (h : FitC (t :: us)) (s k : Nat) : FitC ((t.chose s k).2 ++ us) ∧ (t.chose s k).2.length ≤ 2 := by
  have ht := h t (by simp)
  have hr : FitC us := fun x hx => h x (by simp [hx])
  have key : (∀ x ∈ (t.chose s k).2, x = t ∨ x ∈ t.parts) ∧ (t.chose s k).2.length ≤ 2 := by
    cases t with
    | n0 o d => simp [Ct.chose]
    | n1 o d x =>
      by_cases hk : k = 0
      · simp [Ct.chose, hk]
      · simp [Ct.chose, hk, Ct.parts]
    | n2 o d x y =>
      by_cases hk : k = 0
      · simp [Ct.chose, hk, Ct.parts]
      · simp [Ct.chose, hk, Ct.parts]
  refine ⟨fun x hx => ?_, key.2⟩
  rw [List.mem_append] at hx
  rcases hx with hx | hx
  · rcases key.1 x hx with rfl | hp
    · exact ht
    · exact ⟨Ct.parts_wf ht.1 x hp, by have := Ct.len_part hp; omega⟩
  · exact hr x hx
end Go.Proofs.Ytihmdfhgkfgmnaa
