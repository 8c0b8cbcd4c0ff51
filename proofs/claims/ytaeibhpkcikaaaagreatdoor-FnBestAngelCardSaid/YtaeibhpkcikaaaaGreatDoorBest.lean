/- Plays in which one player makes the best choices. No program in sight. -/
import Derived.Test.YtaeibhpkcikaaaaGreatDoorGL
namespace Go.Proofs.YtaeibhpkcikaaaaGreatDoor
set_option linter.unusedVariables false
set_option linter.unusedSimpArgs false
open Go.RowKit Go.Shelf

/-- does the angel win behind a choice? -/
def winAt (p : Int) (t : Ct) (us : List Ct) (s k : Nat) : Bool := has (semL ((t.chose s k).2 ++ us) p) (t.chose s k).1
/-- the first choice with which a player wins, or the first one -/
def pickOf (p : Int) (ang : Bool) (t : Ct) (us : List Ct) (s : Nat) : Nat := ((t.opts s).find? fun k => winAt p t us s k == ang).getD ((t.opts s).headD 0)
/-- the other player's choice -/
def oth (l : List Nat) : List UInt8 → Nat × List UInt8
  | [] => (l.headD 0, [])
  | o :: os => (l.getD ((o.toNat - 48) % l.length) 0, os)
def chz (p : Int) (ang : Bool) (t : Ct) (us : List Ct) (s : Nat) (os : List UInt8) : Nat × List UInt8 := if (t.who == ang) = true then (pickOf p ang t us s, os) else oth (t.opts s) os
def best (p : Int) (ang : Bool) : Nat → Nat → List Ct → List UInt8 → List UInt8 → List UInt8 × Nat × Fin
  | 0, s, _, _, P => (P, s, .long)
  | f + 1, s, ts, os, P => match (run 200 s ts).2 with
    | (t :: us, .pick) => best p ang f (t.chose s (chz p ang t us s os).1).1 ((t.chose s (chz p ang t us s os).1).2 ++ us) (chz p ang t us s os).2 (P ++ [decB (chz p ang t us s os).1])
    | (_, e) => (P, s, e)
theorem best_pick {p : Int} {ang : Bool} {f s : Nat} {ts : List Ct} {t : Ct} {us : List Ct} (h : (run 200 s ts).2 = (t :: us, .pick)) (os P : List UInt8) : best p ang (f + 1) s ts os P =
    best p ang f (t.chose s (chz p ang t us s os).1).1 ((t.chose s (chz p ang t us s os).1).2 ++ us) (chz p ang t us s os).2 (P ++ [decB (chz p ang t us s os).1]) := by
  simp only [best, h]
theorem best_leaf {p : Int} {ang : Bool} {f s : Nat} {ts us : List Ct} {e : Fin} (h : (run 200 s ts).2 = (us, e)) (he : e ≠ .pick) (os P : List UInt8) : best p ang (f + 1) s ts os P = (P, s, e) := by
  simp only [best, h]
  cases us with
  | nil => rfl
  | cons t us => cases e with
    | pick => exact absurd rfl he
    | _ => rfl
theorem headD_mem {l : List Nat} (h : l ≠ []) : l.headD 0 ∈ l := by
  cases l with
  | nil => exact absurd rfl h
  | cons a l => simp
theorem pickOf_mem (p : Int) (ang : Bool) (t : Ct) (us : List Ct) {s : Nat} (h : t.opts s ≠ []) : pickOf p ang t us s ∈ t.opts s := by
  unfold pickOf
  cases hf : (t.opts s).find? fun k => winAt p t us s k == ang with
  | none => exact headD_mem h
  | some k => exact List.mem_of_find?_eq_some hf
theorem oth_mem {l : List Nat} (h : l ≠ []) (os : List UInt8) : (oth l os).1 ∈ l := by
  cases os with
  | nil => exact headD_mem h
  | cons o os =>
    show l.getD _ 0 ∈ l
    have hl : (o.toNat - 48) % l.length < l.length := Nat.mod_lt _ (List.length_pos_iff.2 h)
    rw [List.getD_eq_getElem?_getD, List.getElem?_eq_getElem hl]
    exact List.getElem_mem _
theorem chz_mem (p : Int) (ang : Bool) (t : Ct) (us : List Ct) {s : Nat} (h : t.opts s ≠ []) (os : List UInt8) : (chz p ang t us s os).1 ∈ t.opts s := by
  unfold chz; split
  · exact pickOf_mem p ang t us h
  · exact oth_mem h os
theorem pickOf_win {p : Int} {ang : Bool} {t : Ct} {us : List Ct} {s : Nat} (h : ∃ k ∈ t.opts s, winAt p t us s k = ang) : winAt p t us s (pickOf p ang t us s) = ang := by
  unfold pickOf
  obtain ⟨k, hk, hw⟩ := h
  cases hf : (t.opts s).find? fun k => winAt p t us s k == ang with
  | none =>
    rw [List.find?_eq_none] at hf
    exact absurd (by rw [hw]; simp) (hf k hk)
  | some j =>
    have := List.find?_some hf
    simpa using this
/-- who can win wins with the best choices, and the choices make this play -/
theorem best_law (p : Int) (hp : C p) (ang : Bool) {t : Ct} {s0 : Nat} (f : Nat) : ∀ (os P : List UInt8) (n s : Nat) (ts : List Ct), PathAt t s0 P n s ts → tot ts < f → ∃ m us e, e ≠ .pick ∧ e ≠ .long ∧ (best p ang f s ts os P).2.2 = e ∧ (best p ang f s ts os P).2.1 < 4 ∧
    t.play s0 (best p ang f s ts os P).1 = ⟨m, (best p ang f s ts os P).2.1, us, (best p ang f s ts os P).1.length, .fin e⟩ ∧ (has (semL ts p) s = ang → winF e (best p ang f s ts os P).2.1 p = ang) := by
  induction f with
  | zero => intro os P n s ts _ h; omega
  | succ f ih =>
    intro os P n s ts h hf
    have htl : tot ts ≤ 200 := by have := h.n1; have := h.n2; omega
    have hfl := run_flat (s := s) (n := n) h.fit h.flat h.n1
    have hfr := fit_run0 (n := n) (s := s) h.fit
    have hm := run_le0 n s ts
    have hpl := h.play []
    rw [List.append_nil] at hpl
    obtain ⟨⟨m, us, e⟩, hR⟩ : ∃ r, r = run n s ts := ⟨_, rfl⟩
    rw [← hR] at hfl hfr hm
    simp only at hm
    have h200 := hfl.2.2.2 200 htl
    have hne := hfl.2.2.1
    have hsem := run_sem h.hs h.fit h.flat hp hR.symm hne
    by_cases he : e = .pick
    · subst he
      obtain ⟨t1, u, rfl, hnx, hno, hm1, _⟩ := run_pick hR.symm
      have hk := chz_mem p ang t1 u hno os
      have hft := hfr t1 (by simp)
      have hlt := hfl.1 t1 (by simp)
      have hru : FitC u := fun x hx => hfr x (by simp [hx])
      have hq := semL_c hru hp
      rw [best_pick h200]
      obtain ⟨n2, s2, ts2, hp2⟩ : ∃ n2 s2 ts2, PathAt t s0 (P ++ [decB (chz p ang t1 u s os).1]) n2 s2 ts2 ∧ s2 = (t1.chose s (chz p ang t1 u s os).1).1 ∧ ts2 = (t1.chose s (chz p ang t1 u s os).1).2 ++ u ∧ tot ts2 < f := by
        have hc := chose_flat hft.1 hlt s (chz p ang t1 u s os).1
        have htt := hfl.2.1
        simp only [tot] at htt
        have hq2 : tot ((t1.chose s (chz p ang t1 u s os).1).2 ++ u) + 1 + n ≤ tot ts + m := by rw [tot_app]; omega
        have h1 := h.tt
        have h2 := h.n2
        have h3 := h.n1
        refine ⟨m - 1, _, _, ⟨fun rest => ?_, chose_lt h.hs hk, (fit_chose hfr s _).1, hc.1.app hfl.1.tail, by rw [List.length_append]; simp only [List.length_cons, List.length_nil]; omega, by omega, by omega, ?_⟩, rfl, rfl, by omega⟩
        · have := h.play (decB (chz p ang t1 u s os).1 :: rest)
          rw [List.append_assoc, List.singleton_append, this, play_on hR.symm hk (chc_decB (opts_lt hk)), List.length_append]
          rfl
        · refine LeSm.trans ?_ h.le
          rw [all_pick (f := 200) h200, all_fuel 201 200 _ _ (chose_lt h.hs hk) (fit_chose hfr s _).1 (hc.1.app hfl.1.tail) (by omega) (by omega) (by omega)]
          exact le_sumO (F := fun k => allA 200 (t1.chose s k).1 ((t1.chose s k).2 ++ u)) (fun k hk => all_c 200 _ _ (chose_lt h.hs hk)) hk
      obtain ⟨hp2, rfl, rfl, htf⟩ := hp2
      obtain ⟨m2, us2, e2, h1, h2, h3, h4, h5, h6⟩ := ih (chz p ang t1 u s os).2 _ _ _ _ hp2 htf
      refine ⟨m2, us2, e2, h1, h2, h3, h4, h5, fun hw => h6 ?_⟩
      have hse : has (semL ts p) s = has (t1.sem (semL u p).toNat) s := hsem
      rw [hse, pick_sem hft.1 hlt h.hs hq hnx] at hw
      have hwa : ∀ k, has (semL (t1.chose s k).2 (semL u p)) (t1.chose s k).1 = winAt p t1 u s k := fun k => by unfold winAt; rw [semL_app]
      simp only [hwa] at hw
      show winAt p t1 u s (chz p ang t1 u s os).1 = ang
      by_cases hwho : (t1.who == ang) = true
      · have e1 : (chz p ang t1 u s os).1 = pickOf p ang t1 u s := by unfold chz; rw [if_pos hwho]
        rw [e1]
        have hwe : t1.who = ang := by simpa using hwho
        rw [hwe] at hw
        refine pickOf_win ?_
        cases ang
        · rw [if_neg (by decide)] at hw
          rw [List.all_eq_false] at hw
          obtain ⟨k, hk2, hk3⟩ := hw
          exact ⟨k, hk2, by simpa using hk3⟩
        · rw [if_pos rfl, List.any_eq_true] at hw
          exact hw
      · have hwe : t1.who = !ang := by
          cases ha : ang <;> cases hb : t1.who <;> simp_all
        rw [hwe] at hw
        cases ang
        · rw [if_pos (by decide), List.any_eq_false] at hw
          simpa using hw _ hk
        · rw [if_neg (by decide), List.all_eq_true] at hw
          exact hw _ hk
    · rw [best_leaf h200 he]
      refine ⟨m, us, e, he, hne, rfl, h.hs, ?_, fun hw => ?_⟩
      · show playA P 200 s0 [t] 0 = _
        rw [hpl, play_end hR.symm he]
      · rw [← hw, hsem]
        cases e with
        | pick => exact absurd rfl he
        | _ => rfl
end Go.Proofs.YtaeibhpkcikaaaaGreatDoor
