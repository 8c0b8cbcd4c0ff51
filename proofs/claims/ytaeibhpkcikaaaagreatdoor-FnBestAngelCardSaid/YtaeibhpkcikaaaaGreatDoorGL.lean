/- Plays: plain facts. No function in sight. -/
import Derived.Test.YtaeibhpkcikaaaaGreatDoorSpP6
import Derived.Test.YtaeibhpkcikaaaaGreatDoorGI
/- Pl2 -/
namespace Go.Proofs.YtaeibhpkcikaaaaGreatDoor
set_option linter.unusedVariables false
set_option linter.unusedSimpArgs false
open Go.RowKit Go.Shelf

theorem opts_lt {t : Ct} {s k : Nat} (h : k ∈ t.opts s) : k < 4 := by
  cases t
  · simp only [Ct.opts, List.mem_filter, List.mem_range] at h; exact h.1
  · simp [Ct.opts] at h; omega
  · simp [Ct.opts] at h; omega
theorem opts_le (t : Ct) (s : Nat) : (t.opts s).length ≤ 4 := by
  cases t
  · exact filt_le _ 4
  · simp [Ct.opts]
  · simp [Ct.opts]
theorem chose_lt {t : Ct} {s k : Nat} (hs : s < 4) (hk : k ∈ t.opts s) : (t.chose s k).1 < 4 := by
  have h4 := opts_lt hk
  cases t
  · exact h4
  · exact hs
  · exact hs
theorem decB_toNat {k : Nat} (h : k < 4) : (decB k).toNat = 48 + k := by
  unfold decB
  rw [UInt8.toNat_ofNat']
  omega
theorem chc_decB {k : Nat} (h : k < 4) : chc (decB k) = (k : Int) := by unfold chc; rw [decB_toNat h]; omega
theorem decB_of {c : UInt8} {k : Nat} (h : chc c = (k : Int)) (hk : k < 4) : c = decB k := by
  apply UInt8.toNat_inj.1
  rw [decB_toNat hk]
  unfold chc at h; omega
theorem bt_optsB (l : List Nat) (j : Nat) (hj : j < l.length) : bt (optsB l) j = decB l[j] := by
  simp [bt, optsB, List.getD_eq_getElem?_getD, hj]
theorem isOpt_iff {l : List Nat} {c : UInt8} : isOpt l c = true ↔ ∃ k ∈ l, chc c = (k : Int) := by simp [isOpt]
theorem isOpt_find {l : List Nat} (hl : ∀ k ∈ l, k < 4) (c : UInt8) : decide (0 ≤ firstIdx (optsB l) c) = isOpt l c := by
  rw [Bool.eq_iff_iff, decide_eq_true_iff, isOpt_iff]
  constructor
  · intro h
    refine Classical.byContradiction fun hn => ?_
    have : firstIdx (optsB l) c = -1 := firstIdx_none _ _ fun j hj e => hn ?_
    · omega
    · rw [optsB_size] at hj
      rw [bt_optsB l j hj] at e
      have hm := List.getElem_mem hj
      exact ⟨l[j], hm, by rw [← e]; exact chc_decB (hl _ hm)⟩
  · rintro ⟨k, hk, e⟩
    have e2 := decB_of e (hl k hk)
    obtain ⟨j, hj, rfl⟩ := List.getElem_of_mem hk
    refine Classical.byContradiction fun hn => ?_
    unfold firstIdx at hn
    cases hf : (List.range (optsB l).size).find? (fun i => (optsB l)[i]! == c) with
    | some i => rw [hf] at hn; exact hn (Int.natCast_nonneg i)
    | none =>
      rw [List.find?_eq_none] at hf
      refine hf j (by rw [optsB_size]; simpa using hj) ?_
      have hs : j < (optsB l).size := by rw [optsB_size]; exact hj
      rw [getElem!_pos (optsB l) j hs, bt_get (optsB l) j hs, bt_optsB l j hj, e2]
      simp
theorem play_end {n s : Nat} {ts : List Ct} {m : Nat} {us : List Ct} {e : Fin} (h : run n s ts = (m, us, e)) (he : e ≠ .pick) (cs : List UInt8) (k : Nat) : playA cs n s ts k = ⟨m, s, us, k, .fin e⟩ := by
  cases cs with
  | nil =>
    cases e <;> first | exact absurd rfl he | simp only [playA, h]
  | cons c cs =>
    cases us <;> cases e <;> first | exact absurd rfl he | simp only [playA, h]
theorem play_asks {n s : Nat} {ts : List Ct} {m : Nat} {us : List Ct} (h : run n s ts = (m, us, .pick)) (k : Nat) : playA [] n s ts k = ⟨m, s, us, k, .asks⟩ := by simp only [playA, h]
theorem play_bad {n s : Nat} {ts : List Ct} {m : Nat} {t : Ct} {us : List Ct} (h : run n s ts = (m, t :: us, .pick)) {c : UInt8} (hc : isOpt (t.opts s) c = false) (cs : List UInt8) (k : Nat) : playA (c :: cs) n s ts k = ⟨m, s, t :: us, k, .bad⟩ := by
  simp only [playA, h, hc]; rfl
theorem play_on {n s : Nat} {ts : List Ct} {m : Nat} {t : Ct} {us : List Ct} (h : run n s ts = (m, t :: us, .pick)) {c : UInt8} {d : Nat} (hd : d ∈ t.opts s) (hc : chc c = (d : Int)) (cs : List UInt8) (k : Nat) :
    playA (c :: cs) n s ts k = playA cs (m - 1) (t.chose s d).1 ((t.chose s d).2 ++ us) (k + 1) := by
  have hi : isOpt (t.opts s) c = true := isOpt_iff.2 ⟨d, hd, hc⟩
  have e : (chc c).toNat = d := by rw [hc]; rfl
  simp only [playA, h, hi, e, if_true]
theorem fit_run {n s : Nat} {ts : List Ct} (h : FitC ts) (hl : ts.length + n ≤ 1000) : FitC (run n s ts).2.1 ∧ (run n s ts).2.1.length + (run n s ts).1 ≤ 1000 := by
  induction n generalizing ts with
  | zero =>
    cases ts with
    | nil => exact ⟨h, hl⟩
    | cons t ts => exact ⟨h, hl⟩
  | succ n ih =>
    cases ts with
    | nil => exact ⟨h, hl⟩
    | cons t ts =>
      cases hn : t.next s with
      | go l =>
        rw [run_go hn]
        have := h.next hn
        exact ih this.1 (by rw [List.length_append]; simp at hl; omega)
      | stop a => rw [run_stop hn]; exact ⟨h, hl⟩
      | pick =>
        cases ho : (t.opts s).isEmpty
        · rw [run_pick2 hn ho]; exact ⟨h, hl⟩
        · rw [run_pick1 hn ho]; exact ⟨h, hl⟩
theorem fit_chose {t : Ct} {us : List Ct} (h : FitC (t :: us)) (s k : Nat) : FitC ((t.chose s k).2 ++ us) ∧ (t.chose s k).2.length ≤ 2 := by
  have ht := h t (by simp)
  have hr : FitC us := fun x hx => h x (by simp [hx])
  have key : (∀ x ∈ (t.chose s k).2, x = t ∨ x ∈ t.parts) ∧ (t.chose s k).2.length ≤ 2 := by
    cases t with
    | n0 o d => simp [Ct.chose]
    | n1 o d x =>
      by_cases hk : k = 0
      · simp [Ct.chose, hk]
      · simp [Ct.chose, hk, Ct.parts]
    | n2 o d x y =>
      by_cases hk : k = 0
      · simp [Ct.chose, hk, Ct.parts]
      · simp [Ct.chose, hk, Ct.parts]
  refine ⟨fun x hx => ?_, key.2⟩
  rw [List.mem_append] at hx
  rcases hx with hx | hx
  · rcases key.1 x hx with rfl | hp
    · exact ht
    · exact ⟨Ct.parts_wf ht.1 x hp, by have := Ct.len_part hp; omega⟩
  · exact hr x hx
end Go.Proofs.YtaeibhpkcikaaaaGreatDoor

/- Pl3 -/
namespace Go.Proofs.YtaeibhpkcikaaaaGreatDoor
set_option linter.unusedVariables false
set_option linter.unusedSimpArgs false
open Go.RowKit Go.Shelf

/-- with the choices that were used alone -/
def again : Stand → Stand
  | .bad => .asks
  | x => x
theorem play_take (cs : List UInt8) : ∀ (n s : Nat) (ts : List Ct) (k : Nat), k ≤ (playA cs n s ts k).used ∧ (playA cs n s ts k).used ≤ k + cs.length ∧ ((playA cs n s ts k).how = .asks → (playA cs n s ts k).used = k + cs.length) ∧
    playA (cs.take ((playA cs n s ts k).used - k)) n s ts k = ⟨(playA cs n s ts k).left, (playA cs n s ts k).state, (playA cs n s ts k).todo, (playA cs n s ts k).used, again (playA cs n s ts k).how⟩ := by
  induction cs with
  | nil =>
    intro n s ts k
    obtain ⟨⟨m, us, f⟩, hR⟩ : ∃ r, r = run n s ts := ⟨_, rfl⟩
    by_cases hp : f = .pick
    · subst hp
      rw [List.take_nil, play_asks hR.symm]
      exact ⟨Nat.le_refl _, Nat.le_refl _, fun _ => rfl, rfl⟩
    · rw [List.take_nil, play_end hR.symm hp]
      exact ⟨Nat.le_refl _, Nat.le_refl _, (fun h => by cases h), rfl⟩
  | cons c cs ih =>
    intro n s ts k
    obtain ⟨⟨m, us, f⟩, hR⟩ : ∃ r, r = run n s ts := ⟨_, rfl⟩
    by_cases hp : f = .pick
    · subst hp
      obtain ⟨t, u, rfl, _⟩ := run_pick hR.symm
      cases hi : isOpt (t.opts s) c
      · rw [play_bad hR.symm hi]
        refine ⟨Nat.le_refl _, by simp, (fun h => by cases h), ?_⟩
        simp only [Nat.sub_self, List.take_zero]
        rw [play_asks hR.symm]; rfl
      · obtain ⟨d, hd, hc⟩ := isOpt_iff.1 hi
        rw [play_on hR.symm hd hc]
        obtain ⟨h1, h2, h3, h4⟩ := ih (m - 1) (t.chose s d).1 ((t.chose s d).2 ++ u) (k + 1)
        refine ⟨by omega, by simp only [List.length_cons]; omega, fun h => by rw [h3 h]; simp only [List.length_cons]; omega, ?_⟩
        generalize hP : playA cs (m - 1) (t.chose s d).1 ((t.chose s d).2 ++ u) (k + 1) = P at *
        obtain ⟨j, hj⟩ : ∃ j, P.used - k = j + 1 := ⟨P.used - k - 1, by omega⟩
        have hj2 : P.used - (k + 1) = j := by omega
        rw [hj, List.take_succ_cons, play_on hR.symm hd hc, ← hj2, h4]
    · rw [play_end hR.symm hp]
      refine ⟨Nat.le_refl _, by simp, (fun h => by cases h), ?_⟩
      rw [play_end hR.symm hp]; rfl
theorem play_nil (n s : Nat) (ts : List Ct) (k : Nat) : (playA [] n s ts k).used = k ∧ (playA [] n s ts k).how ≠ .bad := by
  obtain ⟨⟨m, us, f⟩, hR⟩ : ∃ r, r = run n s ts := ⟨_, rfl⟩
  by_cases hp : f = .pick
  · subst hp; rw [play_asks hR.symm]; simp
  · rw [play_end hR.symm hp]; simp
/-- one choice more -/
theorem play_more (cs : List UInt8) (d : UInt8) : ∀ (n s : Nat) (ts : List Ct) (k : Nat), (playA cs n s ts k).how = .asks → ∃ t us, (playA cs n s ts k).todo = t :: us ∧
    (isOpt (t.opts (playA cs n s ts k).state) d = false → (playA (cs ++ [d]) n s ts k).how = .bad ∧ (playA (cs ++ [d]) n s ts k).used = (playA cs n s ts k).used) ∧
    (isOpt (t.opts (playA cs n s ts k).state) d = true → (playA (cs ++ [d]) n s ts k).how ≠ .bad ∧ (playA (cs ++ [d]) n s ts k).used = (playA cs n s ts k).used + 1) := by
  induction cs with
  | nil =>
    intro n s ts k h
    obtain ⟨⟨m, us, f⟩, hR⟩ : ∃ r, r = run n s ts := ⟨_, rfl⟩
    by_cases hp : f = .pick
    · subst hp
      obtain ⟨t, u, rfl, _⟩ := run_pick hR.symm
      rw [play_asks hR.symm]
      refine ⟨t, u, rfl, fun hi => ?_, fun hi => ?_⟩
      · rw [List.nil_append, play_bad hR.symm hi]; exact ⟨rfl, rfl⟩
      · obtain ⟨e, he, hc⟩ := isOpt_iff.1 hi
        rw [List.nil_append, play_on hR.symm he hc]
        have := play_nil (m - 1) (t.chose s e).1 ((t.chose s e).2 ++ u) (k + 1)
        exact ⟨this.2, this.1⟩
    · rw [play_end hR.symm hp] at h; cases h
  | cons c cs ih =>
    intro n s ts k h
    obtain ⟨⟨m, us, f⟩, hR⟩ : ∃ r, r = run n s ts := ⟨_, rfl⟩
    by_cases hp : f = .pick
    · subst hp
      obtain ⟨t, u, rfl, _⟩ := run_pick hR.symm
      cases hi : isOpt (t.opts s) c
      · rw [play_bad hR.symm hi] at h; cases h
      · obtain ⟨e, he, hc⟩ := isOpt_iff.1 hi
        rw [play_on hR.symm he hc] at h ⊢
        rw [List.cons_append, play_on hR.symm he hc]
        exact ih _ _ _ _ h
    · rw [play_end hR.symm hp] at h; cases h
theorem next_knows {q : UInt8 → Bool} {t : Ct} (h : t.knows q = true) {s : Nat} {l : List Ct} (e : t.next s = .go l) : ∀ x ∈ l, x.knows q = true := by
  have hp := t.knows_parts q
  rw [h] at hp
  have hp2 : ∀ x ∈ t.parts, x.knows q = true := by
    have := hp.symm
    simp only [Bool.and_eq_true, List.all_eq_true] at this
    exact this.2
  have key : ∀ x ∈ l, x = t ∨ x ∈ t.parts := by
    cases t with
    | n0 o d =>
      simp only [Ct.next] at e
      repeat' split at e
      all_goals first | (cases e; simp) | cases e
    | n1 o d x =>
      simp only [Ct.next] at e
      repeat' split at e
      all_goals first | (cases e; simp [Ct.parts]) | cases e
    | n2 o d x y =>
      simp only [Ct.next] at e
      repeat' split at e
      all_goals first | (cases e; simp [Ct.parts]) | cases e
  intro x hx
  rcases key x hx with rfl | hx2
  · exact h
  · exact hp2 x hx2
theorem chose_knows {q : UInt8 → Bool} {t : Ct} (h : t.knows q = true) (s k : Nat) : ∀ x ∈ (t.chose s k).2, x.knows q = true := by
  have hp := t.knows_parts q
  rw [h] at hp
  have hp2 : ∀ x ∈ t.parts, x.knows q = true := by
    have := hp.symm
    simp only [Bool.and_eq_true, List.all_eq_true] at this
    exact this.2
  have key : ∀ x ∈ (t.chose s k).2, x = t ∨ x ∈ t.parts := by
    cases t with
    | n0 o d => simp [Ct.chose]
    | n1 o d x => by_cases hk : k = 0 <;> simp [Ct.chose, hk, Ct.parts]
    | n2 o d x y => by_cases hk : k = 0 <;> simp [Ct.chose, hk, Ct.parts]
  intro x hx
  rcases key x hx with rfl | hx2
  · exact h
  · exact hp2 x hx2
theorem run_knows {q : UInt8 → Bool} {n s : Nat} {ts : List Ct} (h : ∀ x ∈ ts, x.knows q = true) : ∀ x ∈ (run n s ts).2.1, x.knows q = true := by
  induction n generalizing ts with
  | zero => cases ts <;> exact h
  | succ n ih =>
    cases ts with
    | nil => exact h
    | cons t ts =>
      cases hn : t.next s with
      | go l =>
        rw [run_go hn]
        refine ih fun x hx => ?_
        rw [List.mem_append] at hx
        rcases hx with hx | hx
        · exact next_knows (h t (by simp)) hn x hx
        · exact h x (by simp [hx])
      | stop a => rw [run_stop hn]; exact h
      | pick =>
        cases ho : (t.opts s).isEmpty
        · rw [run_pick2 hn ho]; exact h
        · rw [run_pick1 hn ho]; exact h
theorem play_knows {q : UInt8 → Bool} (cs : List UInt8) : ∀ (n s : Nat) (ts : List Ct) (k : Nat), (∀ x ∈ ts, x.knows q = true) → ∀ x ∈ (playA cs n s ts k).todo, x.knows q = true := by
  induction cs with
  | nil =>
    intro n s ts k h
    have hk := run_knows (n := n) (s := s) h
    obtain ⟨⟨m, us, f⟩, hR⟩ : ∃ r, r = run n s ts := ⟨_, rfl⟩
    rw [← hR] at hk
    by_cases hp : f = .pick
    · subst hp; rw [play_asks hR.symm]; exact hk
    · rw [play_end hR.symm hp]; exact hk
  | cons c cs ih =>
    intro n s ts k h
    have hk := run_knows (n := n) (s := s) h
    obtain ⟨⟨m, us, f⟩, hR⟩ : ∃ r, r = run n s ts := ⟨_, rfl⟩
    rw [← hR] at hk
    by_cases hp : f = .pick
    · subst hp
      obtain ⟨t, u, rfl, _⟩ := run_pick hR.symm
      cases hi : isOpt (t.opts s) c
      · rw [play_bad hR.symm hi]; exact hk
      · obtain ⟨e, he, hc⟩ := isOpt_iff.1 hi
        rw [play_on hR.symm he hc]
        refine ih _ _ _ _ fun x hx => ?_
        rw [List.mem_append] at hx
        rcases hx with hx | hx
        · exact chose_knows (hk t (by simp)) s e x hx
        · exact hk x (by simp [hx])
    · rw [play_end hR.symm hp]; exact hk
end Go.Proofs.YtaeibhpkcikaaaaGreatDoor

/- Tal -/
namespace Go.Proofs.YtaeibhpkcikaaaaGreatDoor
set_option linter.unusedVariables false
set_option linter.unusedSimpArgs false
open Go.RowKit Go.Shelf

/-- no loops -/
def nlp (o : UInt8) : Bool := !(o == 119 || o == 42 || o == 43)
def Ct.flat (t : Ct) : Bool := t.knows nlp
def tot : List Ct → Nat
  | [] => 0
  | x :: l => x.num + tot l
theorem tot_app (l m : List Ct) : tot (l ++ m) = tot l + tot m := by
  induction l with
  | nil => simp [tot]
  | cons x l ih => simp [tot, ih]; omega
def Flat (ts : List Ct) : Prop := ∀ t ∈ ts, t.flat = true
theorem Flat.app {l m : List Ct} (h : Flat l) (k : Flat m) : Flat (l ++ m) := fun x hx => by
  rw [List.mem_append] at hx
  rcases hx with hx | hx
  · exact h x hx
  · exact k x hx
theorem Flat.tail {t : Ct} {ts : List Ct} (h : Flat (t :: ts)) : Flat ts := fun x hx => h x (by simp [hx])
theorem flat_n2 {o : UInt8} {d : List Int} {x y : Ct} (h : (Ct.n2 o d x y).flat = true) : x.flat = true ∧ y.flat = true := by
  simp only [Ct.flat, Ct.knows, Bool.and_eq_true] at h ⊢; exact h.2
theorem flat_n1 {o : UInt8} {d : List Int} {x : Ct} (hw : (Ct.n1 o d x).WF) : (Ct.n1 o d x).flat = false := by
  rcases shp1 hw.1.1 with ⟨rfl, _⟩ | ⟨rfl | rfl, _⟩ <;> simp [Ct.flat, Ct.knows, nlp]
theorem next_flat {t : Ct} (hw : t.WF) (hf : t.flat = true) {s : Nat} {l : List Ct} (e : t.next s = .go l) : Flat l ∧ tot l + 1 ≤ t.num := by
  cases t with
  | n0 o d =>
    simp only [Ct.next] at e
    repeat' split at e
    all_goals first | (cases e; exact ⟨fun x hx => by simp at hx, by simp [tot, Ct.num]⟩) | cases e
  | n1 o d x => rw [flat_n1 hw] at hf; cases hf
  | n2 o d x y =>
    have h2 := flat_n2 hf
    simp only [Ct.next] at e
    repeat' split at e
    all_goals first | (cases e; exact ⟨fun z hz => by simp at hz; rcases hz with rfl | rfl <;> simp [h2], by simp [tot, Ct.num]; omega⟩) | (cases e; exact ⟨fun z hz => by simp at hz; subst hz; simp [h2], by simp [tot, Ct.num]; omega⟩) | (cases e; exact ⟨fun z hz => by simp at hz; subst hz; simp [h2], by simp [tot, Ct.num]⟩) | cases e
theorem chose_flat {t : Ct} (hw : t.WF) (hf : t.flat = true) (s k : Nat) : Flat (t.chose s k).2 ∧ tot (t.chose s k).2 + 1 ≤ t.num := by
  cases t with
  | n0 o d => exact ⟨fun x hx => by simp [Ct.chose] at hx, by simp [tot, Ct.num, Ct.chose]⟩
  | n1 o d x => rw [flat_n1 hw] at hf; cases hf
  | n2 o d x y =>
    have h2 := flat_n2 hf
    by_cases hk : k = 0
    · subst hk
      exact ⟨fun z hz => by simp [Ct.chose] at hz; subst hz; exact h2.1, by simp [tot, Ct.num, Ct.chose]; omega⟩
    · exact ⟨fun z hz => by simp [Ct.chose, hk] at hz; subst hz; exact h2.2, by simp [tot, Ct.num, Ct.chose, hk]; omega⟩
/-- a run without loops: what is left, and that nothing hangs on how many moves are allowed -/
theorem run_flat {n s : Nat} {ts : List Ct} (hf : FitC ts) (hl : Flat ts) (hn : tot ts ≤ n) : Flat (run n s ts).2.1 ∧ tot (run n s ts).2.1 + n ≤ tot ts + (run n s ts).1 ∧ (run n s ts).2.2 ≠ .long ∧ ∀ n', tot ts ≤ n' → (run n' s ts).2 = (run n s ts).2 := by
  induction n generalizing ts with
  | zero =>
    cases ts with
    | nil => exact ⟨hl, by simp [run_nil, tot], by simp [run_nil], fun n' _ => by rw [run_nil, run_nil]⟩
    | cons t ts =>
      have : 1 ≤ t.num := by cases t <;> simp [Ct.num] <;> omega
      simp [tot] at hn; omega
  | succ n ih =>
    cases ts with
    | nil => exact ⟨hl, by simp [run_nil, tot], by simp [run_nil], fun n' _ => by rw [run_nil, run_nil]⟩
    | cons t ts =>
      have h1 : 1 ≤ t.num := by cases t <;> simp [Ct.num] <;> omega
      have key : ∀ n', tot (t :: ts) ≤ n' → ∃ k, n' = k + 1 := fun n' h => ⟨n' - 1, by simp [tot] at h; omega⟩
      cases hx : t.next s with
      | go l =>
        have h2 := next_flat (hf t (by simp)).1 (hl t (by simp)) hx
        have h3 := hf.next hx
        have hle : tot (l ++ ts) + 1 ≤ tot (t :: ts) := by rw [tot_app]; simp only [tot]; omega
        have := ih (ts := l ++ ts) h3.1 (h2.1.app hl.tail) (by omega)
        rw [run_go hx]
        refine ⟨this.1, by omega, this.2.2.1, fun n' hn' => ?_⟩
        obtain ⟨k, rfl⟩ := key n' hn'
        rw [run_go hx]
        exact this.2.2.2 k (by omega)
      | stop a =>
        rw [run_stop hx]
        refine ⟨hl, Nat.le_refl _, by simp, fun n' hn' => ?_⟩
        obtain ⟨k, rfl⟩ := key n' hn'
        rw [run_stop hx]
      | pick =>
        cases ho : (t.opts s).isEmpty
        · rw [run_pick2 hx ho]
          refine ⟨hl, Nat.le_refl _, by simp, fun n' hn' => ?_⟩
          obtain ⟨k, rfl⟩ := key n' hn'
          rw [run_pick2 hx ho]
        · rw [run_pick1 hx ho]
          refine ⟨hl, Nat.le_refl _, by simp, fun n' hn' => ?_⟩
          obtain ⟨k, rfl⟩ := key n' hn'
          rw [run_pick1 hx ho]
theorem run_le0 (n s : Nat) (ts : List Ct) : (run n s ts).1 ≤ n := by
  induction n generalizing ts with
  | zero => cases ts <;> exact Nat.le_refl _
  | succ n ih =>
    cases ts with
    | nil => exact Nat.le_refl _
    | cons t ts =>
      cases hn : t.next s with
      | go l => rw [run_go hn]; have := ih (l ++ ts); omega
      | stop a => rw [run_stop hn]; exact Nat.le_refl _
      | pick =>
        cases ho : (t.opts s).isEmpty
        · rw [run_pick2 hn ho]; exact Nat.le_refl _
        · rw [run_pick1 hn ho]; exact Nat.le_refl _
theorem fit_run0 {n s : Nat} {ts : List Ct} (h : FitC ts) : FitC (run n s ts).2.1 := by
  induction n generalizing ts with
  | zero => cases ts <;> exact h
  | succ n ih =>
    cases ts with
    | nil => exact h
    | cons t ts =>
      cases hn : t.next s with
      | go l => rw [run_go hn]; exact ih (h.next hn).1
      | stop a => rw [run_stop hn]; exact h
      | pick =>
        cases ho : (t.opts s).isEmpty
        · rw [run_pick2 hn ho]; exact h
        · rw [run_pick1 hn ho]; exact h
/-- what plays come to -/
structure Sm where
  plays : Nat
  ends : Int
  angel : Bool
  demon : Bool
def Sm.zero : Sm := ⟨0, 0, false, false⟩
def Sm.add (a b : Sm) : Sm := ⟨a.plays + b.plays, bits .or .i64 a.ends b.ends, a.angel || b.angel, a.demon || b.demon⟩
def leafS (e : Fin) (s : Nat) : Sm := match e with
  | .done => ⟨1, sh s, false, false⟩
  | .broke true => ⟨1, 0, true, false⟩
  | .broke false => ⟨1, 0, false, true⟩
  | _ => ⟨1, 0, false, false⟩
def sumO (l : List Nat) (F : Nat → Sm) : Sm := l.foldl (fun a k => a.add (F k)) Sm.zero
theorem sumO_take (l : List Nat) (F : Nat → Sm) (k x : Nat) (h : l[k]? = some x) : sumO (l.take (k + 1)) F = (sumO (l.take k) F).add (F x) := by
  obtain ⟨hk, rfl⟩ := List.getElem?_eq_some_iff.1 h
  rw [List.take_succ_eq_append_getElem hk]
  unfold sumO
  rw [List.foldl_append]
  rfl
theorem foldl_plays (l : List Nat) (F : Nat → Sm) (a : Sm) : (l.foldl (fun a k => a.add (F k)) a).plays = a.plays + (l.foldl (fun a k => a.add (F k)) Sm.zero).plays := by
  induction l generalizing a with
  | nil => simp [Sm.zero]
  | cons x l ih =>
    simp only [List.foldl_cons]
    rw [ih, ih (a := Sm.zero.add (F x))]
    simp [Sm.add, Sm.zero]; omega
theorem sumO_le (l : List Nat) (F : Nat → Sm) (k : Nat) : (sumO (l.take k) F).plays ≤ (sumO l F).plays := by
  have h := foldl_plays (l.drop k) F (sumO (l.take k) F)
  have e : (l.drop k).foldl (fun a k => a.add (F k)) (sumO (l.take k) F) = sumO l F := by
    unfold sumO
    rw [← List.foldl_append, List.take_append_drop]
  rw [e] at h
  omega
def allA : Nat → Nat → List Ct → Sm
  | 0, _, _ => Sm.zero
  | f + 1, s, ts => match (run 200 s ts).2 with
    | (t :: us, .pick) => sumO (t.opts s) fun k => allA f (t.chose s k).1 ((t.chose s k).2 ++ us)
    | (_, e) => leafS e s
theorem all_leaf {f s : Nat} {ts us : List Ct} {e : Fin} (h : (run 200 s ts).2 = (us, e)) (he : e ≠ .pick) : allA (f + 1) s ts = leafS e s := by
  cases us <;> cases e <;> first | exact absurd rfl he | simp only [allA, h]
theorem all_pick {f s : Nat} {ts us : List Ct} {t : Ct} (h : (run 200 s ts).2 = (t :: us, .pick)) : allA (f + 1) s ts = sumO (t.opts s) fun k => allA f (t.chose s k).1 ((t.chose s k).2 ++ us) := by
  simp only [allA, h]
theorem sumO_bound (l : List Nat) (F : Nat → Sm) (B : Nat) (h : ∀ k ∈ l, (F k).plays ≤ B) : (sumO l F).plays ≤ l.length * B := by
  induction l with
  | nil => simp [sumO, Sm.zero]
  | cons x l ih =>
    have h1 := foldl_plays l F (Sm.zero.add (F x))
    have h2 := ih fun k hk => h k (by simp [hk])
    have h3 := h x (by simp)
    show (l.foldl (fun a k => a.add (F k)) (Sm.zero.add (F x))).plays ≤ _
    rw [h1]
    show (Sm.zero.add (F x)).plays + (sumO l F).plays ≤ _
    have e : (Sm.zero.add (F x)).plays = (F x).plays := by simp [Sm.add, Sm.zero]
    rw [e, List.length_cons, Nat.succ_mul]
    omega
theorem all_bound (f : Nat) : ∀ (s : Nat) (ts : List Ct), FitC ts → Flat ts → tot ts ≤ 200 → (allA f s ts).plays ≤ 4 ^ tot ts := by
  induction f with
  | zero => intro s ts _ _ _; simp [allA, Sm.zero]
  | succ f ih =>
    intro s ts hf hl ht
    have hfl := run_flat (s := s) hf hl ht
    obtain ⟨⟨m, us, e⟩, hR⟩ : ∃ r, r = run 200 s ts := ⟨_, rfl⟩
    rw [← hR] at hfl
    have hm : m ≤ 200 := by have := run_le0 200 s ts; rw [← hR] at this; exact this
    by_cases hp : e = .pick
    · subst hp
      obtain ⟨t, u, rfl, hnx, _, _, _⟩ := run_pick hR.symm
      have hfr : FitC (t :: u) := by have := fit_run0 (n := 200) (s := s) hf; rw [← hR] at this; exact this
      rw [all_pick (by rw [← hR])]
      have hlt := hfl.1 t (by simp)
      have htt := hfl.2.1
      simp only [tot] at htt
      refine Nat.le_trans (sumO_bound _ _ (4 ^ (tot ts - 1)) fun k hk => ?_) ?_
      · have hc := chose_flat (hfr t (by simp)).1 hlt s k
        have h1 : tot ((t.chose s k).2 ++ u) ≤ tot ts - 1 := by rw [tot_app]; omega
        refine Nat.le_trans (ih _ _ (fit_chose hfr s k).1 (hc.1.app hfl.1.tail) (by omega)) ?_
        exact Nat.pow_le_pow_right (by omega) h1
      · have h1 : 1 ≤ t.num := by cases t <;> simp [Ct.num] <;> omega
        have h2 : tot ts = (tot ts - 1) + 1 := by omega
        rw [h2, Nat.pow_succ, Nat.mul_comm]
        exact Nat.mul_le_mul_left _ (opts_le t s)
    · rw [all_leaf (by rw [← hR]) hp]
      have h1 : 0 < 4 ^ tot ts := Nat.pow_pos (by omega)
      have h2 : (leafS e s).plays = 1 := by
        cases e with
        | broke a => cases a <;> rfl
        | _ => rfl
      omega
end Go.Proofs.YtaeibhpkcikaaaaGreatDoor

/- Tal2 -/
namespace Go.Proofs.YtaeibhpkcikaaaaGreatDoor
set_option linter.unusedVariables false
set_option linter.unusedSimpArgs false
open Go.RowKit Go.Shelf

theorem or_assocC {a b c : Int} (ha : C a) (hb : C b) (hc : C c) : bits .or .i64 (bits .or .i64 a b) c = bits .or .i64 a (bits .or .i64 b c) :=
  C.ext (C.or (C.or ha hb) hc) (C.or ha (C.or hb hc)) fun i hi => by
    rw [has_or (C.or ha hb).fit16 hc.fit16, has_or ha.fit16 hb.fit16, has_or ha.fit16 (C.or hb hc).fit16, has_or hb.fit16 hc.fit16, Bool.or_assoc]
theorem or_zeroC {a : Int} (ha : C a) : bits .or .i64 a 0 = a :=
  C.ext (C.or ha C.zero) ha fun i hi => by rw [has_or ha.fit16 C.zero.fit16, has_zero, Bool.or_false]
theorem zero_orC {a : Int} (ha : C a) : bits .or .i64 0 a = a :=
  C.ext (C.or C.zero ha) ha fun i hi => by rw [has_or C.zero.fit16 ha.fit16, has_zero, Bool.false_or]
theorem sh_c {s : Nat} (h : s < 4) : C (sh s) := by
  obtain rfl | rfl | rfl | rfl : s = 0 ∨ s = 1 ∨ s = 2 ∨ s = 3 := by omega
  all_goals exact ⟨by decide +kernel, by decide +kernel⟩
theorem Sm.add_assoc {a b c : Sm} (ha : C a.ends) (hb : C b.ends) (hc : C c.ends) : (a.add b).add c = a.add (b.add c) := by
  simp only [Sm.add, or_assocC ha hb hc, Bool.or_assoc, Nat.add_assoc]
theorem Sm.add_zero {a : Sm} (ha : C a.ends) : a.add Sm.zero = a := by
  cases a
  simp only [Sm.add, Sm.zero, or_zeroC ha, Bool.or_false, Nat.add_zero]
theorem Sm.zero_add {a : Sm} (ha : C a.ends) : Sm.zero.add a = a := by
  cases a
  simp only [Sm.add, Sm.zero, zero_orC ha, Bool.false_or, Nat.zero_add]
theorem foldl_c (l : List Nat) (F : Nat → Sm) (h : ∀ k ∈ l, C (F k).ends) (a : Sm) (ha : C a.ends) : C (l.foldl (fun a k => a.add (F k)) a).ends := by
  induction l generalizing a with
  | nil => exact ha
  | cons x l ih => exact ih (fun k hk => h k (by simp [hk])) _ (C.or ha (h x (by simp)))
theorem sumO_c (l : List Nat) (F : Nat → Sm) (h : ∀ k ∈ l, C (F k).ends) : C (sumO l F).ends := foldl_c l F h _ C.zero
theorem leaf_c (e : Fin) {s : Nat} (h : s < 4) : C (leafS e s).ends := by
  cases e with
  | done => exact sh_c h
  | broke a => cases a <;> exact C.zero
  | _ => exact C.zero
theorem all_c (f : Nat) : ∀ (s : Nat) (ts : List Ct), s < 4 → C (allA f s ts).ends := by
  induction f with
  | zero => intro s ts _; exact C.zero
  | succ f ih =>
    intro s ts hs
    obtain ⟨us, e, h⟩ : ∃ us e, (run 200 s ts).2 = (us, e) := ⟨_, _, rfl⟩
    by_cases hp : e = .pick
    · subst hp
      cases us with
      | nil =>
        have : allA (f + 1) s ts = leafS .pick s := by simp only [allA, h]
        rw [this]; exact leaf_c _ hs
      | cons t us =>
        rw [all_pick h]
        exact sumO_c _ _ fun k hk => ih _ _ (chose_lt hs hk)
    · rw [all_leaf h hp]; exact leaf_c e hs
end Go.Proofs.YtaeibhpkcikaaaaGreatDoor

/- Win -/
namespace Go.Proofs.YtaeibhpkcikaaaaGreatDoor
set_option linter.unusedVariables false
set_option linter.unusedSimpArgs false
open Go.RowKit Go.Shelf

/-- what must hold ahead of a list of statements -/
def semL : List Ct → Int → Int
  | [], p => p
  | t :: ts, p => t.sem (semL ts p).toNat
theorem semL_app (l m : List Ct) (p : Int) : semL (l ++ m) p = semL l (semL m p) := by
  induction l with
  | nil => rfl
  | cons t l ih => simp [semL, ih]
theorem semL_c {ts : List Ct} (h : FitC ts) {p : Int} (hp : C p) : C (semL ts p) := by
  induction ts with
  | nil => exact hp
  | cons t ts ih => exact (t.mon (h t (by simp)).1).ok _
theorem skip_at {q : Int} (hq : C q) : skipT q.toNat = q := by
  unfold skipT; rw [if_pos (lt16 hq), toNat_cast hq]
theorem has_assT {q : Int} (hq : C q) {p : Int} (hp : C p) (s : Nat) : has (assT p q.toNat) s = (has p s && has q s) := by
  rw [assT_at (lt16 hq), toNat_cast hq, has_and hp.fit16 hq.fit16]
theorem has_assuT {q : Int} (hq : C q) {p : Int} (hp : C p) {s : Nat} (hs : s < 4) : has (assuT p q.toNat) s = (has q s || !has p s) := by
  rw [assuT_at (lt16 hq), toNat_cast hq, has_or hq.fit16 (notp_ok hp).fit16, has_notp hp hs]
theorem has_iteT {q : Int} {p : Int} (hp : C p) {t u : Nat → Int} (ht : Cond t) (hu : Cond u) (s : Nat) : has (iteT p t u q.toNat) s = ((has p s && has (t q.toNat) s) || (has (u q.toNat) s && !has p s)) := by
  unfold iteT
  rw [has_or (C.and hp (ht _)).fit16 (C.dif (hu _) hp).fit16, has_and hp.fit16 (C.fit16 (ht _)), has_dif (C.fit16 (hu _)) hp.fit16]
theorem has_meetT {q : Int} {t u : Nat → Int} (ht : Cond t) (hu : Cond u) (s : Nat) : has (meetT t u q.toNat) s = (has (t q.toNat) s && has (u q.toNat) s) := by
  unfold meetT; rw [has_and (C.fit16 (ht _)) (C.fit16 (hu _))]
theorem has_joinT {q : Int} {t u : Nat → Int} (ht : Cond t) (hu : Cond u) (s : Nat) : has (joinT t u q.toNat) s = (has (t q.toNat) s || has (u q.toNat) s) := by
  unfold joinT; rw [has_or (C.fit16 (ht _)) (C.fit16 (hu _))]
theorem has_zeroB (s : Nat) : has 0 s = false := has_zero s
/-- a statement that goes on -/
theorem next_sem {t : Ct} (ht : t.WF) (hf : t.flat = true) {s : Nat} (hs : s < 4) {q : Int} (hq : C q) {l : List Ct} (e : t.next s = .go l) : has (t.sem q.toNat) s = has (semL l q) s := by
  cases t with
  | n0 o d =>
    have hd := dsF_c ht.2
    rcases shp0 ht.1 with ⟨rfl | rfl | rfl, hn⟩ | ⟨rfl | rfl, hn⟩ | ⟨ho, hn⟩
    · cases e
      show has (skipT q.toNat) s = has q s
      rw [skip_at hq]
    · cases e
    · cases e
    · change (if has (dsF d 0) s then Nx.go [] else Nx.stop true) = .go l at e
      cases hh : has (dsF d 0) s
      · rw [hh] at e; cases e
      · rw [hh] at e; cases e
        show has (assT (dsF d 0) q.toNat) s = has q s
        rw [has_assT hq (hd 0), hh, Bool.true_and]
    · change (if has (dsF d 0) s then Nx.go [] else Nx.stop false) = .go l at e
      cases hh : has (dsF d 0) s
      · rw [hh] at e; cases e
      · rw [hh] at e; cases e
        show has (assuT (dsF d 0) q.toNat) s = has q s
        rw [has_assuT hq (hd 0) hs, hh]; simp
    · rcases ho with rfl | rfl <;> cases e
  | n1 o d x => rw [flat_n1 ht] at hf; cases hf
  | n2 o d x y =>
    have hd := dsF_c ht.1.2
    have hx := (x.mon ht.2.1).ok
    have hy := (y.mon ht.2.2).ok
    rcases shp2 ht.1.1 with ⟨rfl | rfl | rfl, hn⟩ | ⟨rfl, hn⟩
    · cases e; rfl
    · cases e
    · cases e
    · change (if has (dsF d 0) s then Nx.go [x] else Nx.go [y]) = .go l at e
      show has (iteT (dsF d 0) x.sem y.sem q.toNat) s = _
      rw [has_iteT (hd 0) hx hy]
      cases hh : has (dsF d 0) s
      · rw [hh] at e; cases e
        show (false && _ || has (y.sem q.toNat) s && !false) = has (y.sem q.toNat) s
        simp
      · rw [hh] at e; cases e
        show (true && has (x.sem q.toNat) s || _ && !true) = has (x.sem q.toNat) s
        simp
/-- a statement that somebody breaks -/
theorem stop_sem {t : Ct} (ht : t.WF) {s : Nat} (hs : s < 4) {q : Int} (hq : C q) {a : Bool} (e : t.next s = .stop a) : has (t.sem q.toNat) s = !a := by
  cases t with
  | n0 o d =>
    have hd := dsF_c ht.2
    rcases shp0 ht.1 with ⟨rfl | rfl | rfl, hn⟩ | ⟨rfl | rfl, hn⟩ | ⟨ho, hn⟩
    · cases e
    · cases e
      show has (assT 0 q.toNat) s = false
      rw [has_assT hq C.zero, has_zeroB, Bool.false_and]
    · cases e
      show has (assuT 0 q.toNat) s = true
      rw [has_assuT hq C.zero hs, has_zeroB]; simp
    · change (if has (dsF d 0) s then Nx.go [] else Nx.stop true) = .stop a at e
      cases hh : has (dsF d 0) s
      · rw [hh] at e; cases e
        show has (assT (dsF d 0) q.toNat) s = false
        rw [has_assT hq (hd 0), hh, Bool.false_and]
      · rw [hh] at e; cases e
    · change (if has (dsF d 0) s then Nx.go [] else Nx.stop false) = .stop a at e
      cases hh : has (dsF d 0) s
      · rw [hh] at e; cases e
        show has (assuT (dsF d 0) q.toNat) s = true
        rw [has_assuT hq (hd 0) hs, hh]; simp
      · rw [hh] at e; cases e
    · rcases ho with rfl | rfl <;> cases e
  | n1 o d x =>
    rcases shp1 ht.1.1 with ⟨rfl, hn⟩ | ⟨rfl | rfl, hn⟩
    · change (if has (dsF d 0) s then Nx.go [x, .n1 119 d x] else Nx.go []) = .stop a at e; split at e <;> cases e
    · cases e
    · cases e
  | n2 o d x y =>
    rcases shp2 ht.1.1 with ⟨rfl | rfl | rfl, hn⟩ | ⟨rfl, hn⟩
    · cases e
    · cases e
    · cases e
    · change (if has (dsF d 0) s then Nx.go [x] else Nx.go [y]) = .stop a at e; split at e <;> cases e
/-- a choice: the angel wants one way to win, the demon must be beaten on all -/
theorem pick_sem {t : Ct} (ht : t.WF) (hf : t.flat = true) {s : Nat} (hs : s < 4) {q : Int} (hq : C q) (e : t.next s = .pick) :
    has (t.sem q.toNat) s = if t.who then (t.opts s).any (fun k => has (semL (t.chose s k).2 q) (t.chose s k).1) else (t.opts s).all (fun k => has (semL (t.chose s k).2 q) (t.chose s k).1) := by
  rcases next_pick ht e with ⟨d, rfl, hd⟩ | ⟨d, rfl, hd⟩ | ⟨x, rfl⟩ | ⟨x, rfl⟩ | ⟨x, y, rfl⟩ | ⟨x, y, rfl⟩
  · have hd' := dsF_c ht.2
    show has (dia (dsF d) ((q.toNat : Nat) : Int)) s = ((List.range 4).filter fun u => has (dsF d s) u).any (fun k => has q k)
    rw [toNat_cast hq, Bool.eq_iff_iff, has_dia hd' hq hs]
    simp only [List.any_eq_true, List.mem_filter, List.mem_range]
    constructor
    · rintro ⟨j, h1, h2, h3⟩; exact ⟨j, ⟨h1, h2⟩, h3⟩
    · rintro ⟨j, ⟨h1, h2⟩, h3⟩; exact ⟨j, h1, h2, h3⟩
  · have hd' := dsF_c ht.2
    show has (box (dsF d) ((q.toNat : Nat) : Int)) s = ((List.range 4).filter fun u => has (dsF d s) u).all (fun k => has q k)
    rw [toNat_cast hq, Bool.eq_iff_iff, has_box hd' hq hs]
    simp only [List.all_eq_true, List.mem_filter, List.mem_range]
    constructor
    · rintro h j ⟨h1, h2⟩; exact h j h1 h2
    · intro h j h1 h2; exact h j ⟨h1, h2⟩
  · rw [flat_n1 ht] at hf; cases hf
  · rw [flat_n1 ht] at hf; cases hf
  · have hx := (x.mon ht.2.1).ok
    have hy := (y.mon ht.2.2).ok
    show has (meetT x.sem y.sem q.toNat) s = [0, 1].all (fun k => has (semL [if k = 0 then x else y] q) s)
    rw [has_meetT hx hy]
    simp [semL]
  · have hx := (x.mon ht.2.1).ok
    have hy := (y.mon ht.2.2).ok
    show has (joinT x.sem y.sem q.toNat) s = [0, 1].any (fun k => has (semL [if k = 0 then x else y] q) s)
    rw [has_joinT hx hy]
    simp [semL]
/-- how a run's end is won -/
def winF (e : Fin) (s : Nat) (p : Int) : Bool := match e with
  | .done => has p s
  | .broke a => !a
  | _ => false
def afterF (e : Fin) (us : List Ct) (s : Nat) (p : Int) : Bool := match e with
  | .pick => has (semL us p) s
  | e => winF e s p
theorem run_sem {n s : Nat} (hs : s < 4) {ts : List Ct} (hf : FitC ts) (hl : Flat ts) {p : Int} (hp : C p) {m : Nat} {us : List Ct} {e : Fin} (h : run n s ts = (m, us, e)) : e ≠ .long → has (semL ts p) s = afterF e us s p := by
  induction n generalizing ts with
  | zero =>
    intro he
    cases ts with
    | nil => rw [run_nil] at h; cases h; rfl
    | cons t ts => rw [run_zero] at h; cases h; exact absurd rfl he
  | succ n ih =>
    intro he
    cases ts with
    | nil => rw [run_nil] at h; cases h; rfl
    | cons t ts =>
      have ht := (hf t (by simp)).1
      have hlt := hl t (by simp)
      have hr : FitC ts := fun x hx => hf x (by simp [hx])
      have hq := semL_c hr hp
      show has (t.sem (semL ts p).toNat) s = _
      cases hx : t.next s with
      | go l =>
        rw [run_go hx] at h
        have h2 := next_flat ht hlt hx
        have h3 := hf.next hx
        rw [next_sem ht hlt hs hq hx, ← semL_app]
        exact ih h3.1 (h2.1.app hl.tail) h he
      | stop a =>
        rw [run_stop hx] at h; cases h
        exact stop_sem ht hs hq hx
      | pick =>
        cases ho : (t.opts s).isEmpty
        · rw [run_pick2 hx ho] at h; cases h; rfl
        · rw [run_pick1 hx ho] at h; cases h
          have e1 : t.opts s = [] := by simpa using ho
          rw [pick_sem ht hlt hs hq hx, e1]
          show _ = !t.who
          cases t.who <;> rfl
/-! ### all plays, and who wins -/
def noA (o : UInt8) : Bool := !(o == 124 || o == 65 || o == 43)
def noD (o : UInt8) : Bool := !(o == 68 || o == 38 || o == 42)
theorem who_noA {t : Ct} (h : t.knows noA = true) : t.who = false := by
  have hp := t.knows_parts noA
  rw [h] at hp
  have : noA t.op = true := by
    have := hp.symm
    simp only [Bool.and_eq_true] at this
    exact this.1
  unfold noA at this
  unfold Ct.who
  simpa using this
theorem who_noD {t : Ct} (ht : t.WF) {s : Nat} (hn : t.next s = .pick) (h : t.knows noD = true) : t.who = true := by
  have hp := t.knows_parts noD
  rw [h] at hp
  have h2 : noD t.op = true := by
    have := hp.symm
    simp only [Bool.and_eq_true] at this
    exact this.1
  rcases next_pick ht hn with ⟨d, rfl, _⟩ | ⟨d, rfl, _⟩ | ⟨x, rfl⟩ | ⟨x, rfl⟩ | ⟨x, y, rfl⟩ | ⟨x, y, rfl⟩ <;> first | rfl | (exfalso; revert h2; simp [Ct.op, noD])
theorem has_sumO (l : List Nat) (F : Nat → Sm) (hC : ∀ k ∈ l, C (F k).ends) (i : Nat) : has (sumO l F).ends i = l.any fun k => has (F k).ends i := by
  have key : ∀ (l : List Nat) (a : Sm), C a.ends → (∀ k ∈ l, C (F k).ends) → has (l.foldl (fun a k => a.add (F k)) a).ends i = (has a.ends i || l.any fun k => has (F k).ends i) := by
    intro l
    induction l with
    | nil => intro a _ _; simp
    | cons x l ih =>
      intro a ha hc
      have hx := hc x (by simp)
      simp only [List.foldl_cons]
      rw [ih _ (C.or ha hx) (fun k hk => hc k (by simp [hk]))]
      show (has (bits .or .i64 a.ends (F x).ends) i || _) = _
      rw [has_or ha.fit16 hx.fit16, List.any_cons, Bool.or_assoc]
  have := key l Sm.zero C.zero hC
  rw [show (sumO l F) = l.foldl (fun a k => a.add (F k)) Sm.zero from rfl, this]
  show (has 0 i || _) = _
  rw [has_zeroB, Bool.false_or]
theorem angel_sumO (l : List Nat) (F : Nat → Sm) : (sumO l F).angel = l.any fun k => (F k).angel := by
  have key : ∀ (l : List Nat) (a : Sm), (l.foldl (fun a k => a.add (F k)) a).angel = (a.angel || l.any fun k => (F k).angel) := by
    intro l
    induction l with
    | nil => intro a; simp
    | cons x l ih => intro a; simp only [List.foldl_cons]; rw [ih]; simp [Sm.add, Bool.or_assoc]
  rw [show (sumO l F) = l.foldl (fun a k => a.add (F k)) Sm.zero from rfl, key]; simp [Sm.zero]
theorem demon_sumO (l : List Nat) (F : Nat → Sm) : (sumO l F).demon = l.any fun k => (F k).demon := by
  have key : ∀ (l : List Nat) (a : Sm), (l.foldl (fun a k => a.add (F k)) a).demon = (a.demon || l.any fun k => (F k).demon) := by
    intro l
    induction l with
    | nil => intro a; simp
    | cons x l ih => intro a; simp only [List.foldl_cons]; rw [ih]; simp [Sm.add, Bool.or_assoc]
  rw [show (sumO l F) = l.foldl (fun a k => a.add (F k)) Sm.zero from rfl, key]; simp [Sm.zero]
/-- all plays end well -/
def goodAll (a : Sm) (p : Int) : Prop := (∀ i, i < 4 → has a.ends i = true → has p i = true) ∧ a.angel = false
/-- some play ends well -/
def goodOne (a : Sm) (p : Int) : Prop := (∃ i, i < 4 ∧ has a.ends i = true ∧ has p i = true) ∨ a.demon = true
theorem goodAll_sum {l : List Nat} {F : Nat → Sm} (hC : ∀ k ∈ l, C (F k).ends) {p : Int} : goodAll (sumO l F) p ↔ ∀ k ∈ l, goodAll (F k) p := by
  unfold goodAll
  rw [angel_sumO]
  constructor
  · rintro ⟨h1, h2⟩ k hk
    refine ⟨fun i hi h => h1 i hi ?_, ?_⟩
    · rw [has_sumO l F hC, List.any_eq_true]; exact ⟨k, hk, h⟩
    · rw [List.any_eq_false] at h2; simpa using h2 k hk
  · intro h
    refine ⟨fun i hi hh => ?_, ?_⟩
    · rw [has_sumO l F hC, List.any_eq_true] at hh
      obtain ⟨k, hk, hh⟩ := hh
      exact (h k hk).1 i hi hh
    · rw [List.any_eq_false]; intro k hk; simpa using (h k hk).2
theorem goodOne_sum {l : List Nat} {F : Nat → Sm} (hC : ∀ k ∈ l, C (F k).ends) {p : Int} : goodOne (sumO l F) p ↔ ∃ k ∈ l, goodOne (F k) p := by
  unfold goodOne
  rw [demon_sumO]
  constructor
  · rintro (⟨i, hi, h1, h2⟩ | h)
    · rw [has_sumO l F hC, List.any_eq_true] at h1
      obtain ⟨k, hk, h1⟩ := h1
      exact ⟨k, hk, .inl ⟨i, hi, h1, h2⟩⟩
    · rw [List.any_eq_true] at h
      obtain ⟨k, hk, h⟩ := h
      exact ⟨k, hk, .inr h⟩
  · rintro ⟨k, hk, ⟨i, hi, h1, h2⟩ | h⟩
    · exact .inl ⟨i, hi, by rw [has_sumO l F hC, List.any_eq_true]; exact ⟨k, hk, h1⟩, h2⟩
    · exact .inr (by rw [List.any_eq_true]; exact ⟨k, hk, h⟩)
theorem leaf_win {e : Fin} (h1 : e ≠ .pick) (h2 : e ≠ .long) {s : Nat} (hs : s < 4) (p : Int) : (winF e s p = true → goodOne (leafS e s) p ∧ goodAll (leafS e s) p) ∧ (winF e s p = false → ¬ goodAll (leafS e s) p ∧ ¬ goodOne (leafS e s) p) := by
  cases e with
  | pick => exact absurd rfl h1
  | long => exact absurd rfl h2
  | done =>
    have hsh : ∀ i, has (sh s) i = decide (s = i) := fun i => has_sh (by omega) i
    constructor
    · intro h
      refine ⟨.inl ⟨s, hs, by show has (sh s) s = true; rw [hsh]; simp, h⟩, fun i hi hh => ?_, rfl⟩
      have : has (sh s) i = true := hh
      rw [hsh] at this
      obtain rfl : s = i := by simpa using this
      exact h
    · intro h
      refine ⟨fun hg => ?_, ?_⟩
      · have := hg.1 s hs (by show has (sh s) s = true; rw [hsh]; simp)
        change has p s = false at h
        rw [this] at h; cases h
      · rintro (⟨i, hi, h3, h4⟩ | h3)
        · have h5 : has (sh s) i = true := h3
          rw [hsh] at h5
          obtain rfl : s = i := by simpa using h5
          change has p s = false at h
          rw [h4] at h; cases h
        · cases h3
  | broke a =>
    cases a
    · refine ⟨fun _ => ⟨.inr rfl, fun i hi hh => ?_, rfl⟩, fun h => by cases h⟩
      have : has 0 i = true := hh
      rw [has_zeroB] at this; cases this
    · refine ⟨(fun h => by cases h), fun _ => ⟨(fun hg => by have := hg.2; cases this), ?_⟩⟩
      rintro (⟨i, hi, h3, h4⟩ | h3)
      · have : has 0 i = true := h3
        rw [has_zeroB] at this; cases this
      · cases h3
theorem win_all (f : Nat) : ∀ (s : Nat) (ts : List Ct) (p : Int), s < 4 → FitC ts → Flat ts → tot ts < f → tot ts ≤ 200 → C p →
    (has (semL ts p) s = true → goodOne (allA f s ts) p) ∧ (has (semL ts p) s = false → ¬ goodAll (allA f s ts) p) ∧
    ((∀ x ∈ ts, x.knows noA = true) → has (semL ts p) s = true → goodAll (allA f s ts) p) ∧ ((∀ x ∈ ts, x.knows noD = true) → goodOne (allA f s ts) p → has (semL ts p) s = true) := by
  induction f with
  | zero => intro s ts p hs hf hl h1; omega
  | succ f ih =>
    intro s ts p hs hf hl h1 h2 hp
    have hfl := run_flat (s := s) (n := 200) hf hl h2
    have hfr := fit_run0 (n := 200) (s := s) hf
    have hm := run_le0 200 s ts
    have hkn := fun (q : UInt8 → Bool) (h : ∀ x ∈ ts, x.knows q = true) => run_knows (n := 200) (s := s) h
    obtain ⟨⟨m, us, e⟩, hR⟩ : ∃ r, r = run 200 s ts := ⟨_, rfl⟩
    rw [← hR] at hfl hfr hm hkn
    simp only at hm hkn
    have hsem := run_sem hs hf hl hp hR.symm hfl.2.2.1
    by_cases he : e = .pick
    · subst he
      obtain ⟨t, u, rfl, hnx, hne, hm1, _⟩ := run_pick hR.symm
      have hft := hfr t (by simp)
      have hlt := hfl.1 t (by simp)
      have hru : FitC u := fun x hx => hfr x (by simp [hx])
      have htt := hfl.2.1
      simp only [tot] at htt
      rw [all_pick (f := f) (by rw [← hR])]
      have hq := semL_c hru hp
      have hse : has (semL ts p) s = has (t.sem (semL u p).toNat) s := hsem
      rw [hse, pick_sem hft.1 hlt hs hq hnx]
      have hC : ∀ k ∈ t.opts s, C (allA f (t.chose s k).1 ((t.chose s k).2 ++ u)).ends := fun k hk => all_c f _ _ (chose_lt hs hk)
      rw [goodAll_sum hC, goodOne_sum hC]
      have IH : ∀ k ∈ t.opts s, _ := fun k hk => by
        have hc := chose_flat hft.1 hlt s k
        have hq2 : tot ((t.chose s k).2 ++ u) + 1 ≤ tot ts := by rw [tot_app]; omega
        exact ih (t.chose s k).1 ((t.chose s k).2 ++ u) p (chose_lt hs hk) (fit_chose hfr s k).1 (hc.1.app hfl.1.tail) (by omega) (by omega) hp
      simp only [semL_app] at IH
      obtain ⟨k0, hk0⟩ : ∃ k0, k0 ∈ t.opts s := List.exists_mem_of_ne_nil _ hne
      refine ⟨fun h => ?_, fun h hg => ?_, fun hno h => ?_, fun hno hg => ?_⟩
      · cases hw : t.who
        · rw [hw] at h
          simp only [Bool.false_eq_true, if_false, List.all_eq_true] at h
          exact ⟨k0, hk0, (IH k0 hk0).1 (h k0 hk0)⟩
        · rw [hw] at h
          simp only [if_true, List.any_eq_true] at h
          obtain ⟨k, hk, h⟩ := h
          exact ⟨k, hk, (IH k hk).1 h⟩
      · cases hw : t.who
        · rw [hw] at h
          simp only [Bool.false_eq_true, if_false, List.all_eq_false] at h
          obtain ⟨k, hk, h⟩ := h
          exact (IH k hk).2.1 (by simpa using h) (hg k hk)
        · rw [hw] at h
          simp only [if_true, List.any_eq_false] at h
          exact (IH k0 hk0).2.1 (by simpa using h k0 hk0) (hg k0 hk0)
      · have hkk := hkn noA hno
        have hw := who_noA (hkk t (by simp))
        rw [hw] at h
        simp only [Bool.false_eq_true, if_false, List.all_eq_true] at h
        intro k hk
        refine (IH k hk).2.2.1 (fun x hx => ?_) (h k hk)
        rw [List.mem_append] at hx
        rcases hx with hx | hx
        · exact chose_knows (hkk t (by simp)) s k x hx
        · exact hkk x (by simp [hx])
      · have hkk := hkn noD hno
        have hw := who_noD hft.1 hnx (hkk t (by simp))
        rw [hw]
        simp only [if_true, List.any_eq_true]
        obtain ⟨k, hk, hg⟩ := hg
        refine ⟨k, hk, (IH k hk).2.2.2 (fun x hx => ?_) hg⟩
        rw [List.mem_append] at hx
        rcases hx with hx | hx
        · exact chose_knows (hkk t (by simp)) s k x hx
        · exact hkk x (by simp [hx])
    · rw [all_leaf (f := f) (by rw [← hR]) he]
      have hw := leaf_win he hfl.2.2.1 hs p
      have hse : has (semL ts p) s = winF e s p := by
        rw [hsem]
        cases e <;> first | exact absurd rfl he | rfl
      rw [hse]
      exact ⟨fun h => (hw.1 h).1, fun h => (hw.2 h).1, fun _ h => (hw.1 h).2, fun _ h => by
        cases hh : winF e s p
        · exact absurd h (hw.2 hh).2
        · rfl⟩
end Go.Proofs.YtaeibhpkcikaaaaGreatDoor

/- Out -/
namespace Go.Proofs.YtaeibhpkcikaaaaGreatDoor
set_option linter.unusedVariables false
set_option linter.unusedSimpArgs false
open Go.RowKit Go.Shelf

/-- what comes to less -/
structure LeSm (a b : Sm) : Prop where
  ends : ∀ i, has a.ends i = true → has b.ends i = true
  angel : a.angel = true → b.angel = true
  demon : a.demon = true → b.demon = true
theorem LeSm.trans {a b c : Sm} (h : LeSm a b) (k : LeSm b c) : LeSm a c := ⟨fun i hi => k.ends i (h.ends i hi), fun x => k.angel (h.angel x), fun x => k.demon (h.demon x)⟩
theorem LeSm.refl (a : Sm) : LeSm a a := ⟨fun _ h => h, fun h => h, fun h => h⟩
theorem le_sumO {l : List Nat} {F : Nat → Sm} (hC : ∀ k ∈ l, C (F k).ends) {k : Nat} (hk : k ∈ l) : LeSm (F k) (sumO l F) :=
  ⟨fun i h => by rw [has_sumO l F hC, List.any_eq_true]; exact ⟨k, hk, h⟩, fun h => by rw [angel_sumO, List.any_eq_true]; exact ⟨k, hk, h⟩, fun h => by rw [demon_sumO, List.any_eq_true]; exact ⟨k, hk, h⟩⟩
/-- where a play stands behind choices -/
structure PathAt (t : Ct) (s : Nat) (P : List UInt8) (n s' : Nat) (ts : List Ct) : Prop where
  play : ∀ rest, playA (P ++ rest) 200 s [t] 0 = playA rest n s' ts P.length
  hs : s' < 4
  fit : FitC ts
  flat : Flat ts
  tt : tot ts + P.length ≤ t.num
  n1 : tot ts ≤ n
  n2 : n ≤ 200
  le : LeSm (allA 201 s' ts) (allA 201 s [t])
theorem fitOne {t : Ct} (ht : t.WF) (hl : t.len ≤ 200) : FitC [t] := fun x hx => by simp at hx; subst hx; exact ⟨ht, hl⟩
theorem PathAt.start {t : Ct} (ht : t.WF) (hl : t.len ≤ 200) (hf : t.flat = true) {s : Nat} (hs : s < 4) : PathAt t s [] 200 s [t] :=
  ⟨fun rest => rfl, hs, fitOne ht hl, fun x hx => by simp at hx; subst hx; exact hf, by simp [tot], by have := t.num_le; simp [tot]; omega, Nat.le_refl _, LeSm.refl _⟩
/-- the fuel of a tally does not matter -/
theorem all_fuel (f : Nat) : ∀ (g s : Nat) (ts : List Ct), s < 4 → FitC ts → Flat ts → tot ts ≤ 200 → tot ts < f → tot ts < g → allA f s ts = allA g s ts := by
  induction f with
  | zero => intro g s ts _ _ _ _ h; omega
  | succ f ih =>
    intro g s ts hs hf hl h2 h1 hg
    obtain ⟨g, rfl⟩ : ∃ k, g = k + 1 := ⟨g - 1, by omega⟩
    have hfl := run_flat (s := s) (n := 200) hf hl h2
    have hfr := fit_run0 (n := 200) (s := s) hf
    have hm := run_le0 200 s ts
    obtain ⟨⟨m, us, e⟩, hR⟩ : ∃ r, r = run 200 s ts := ⟨_, rfl⟩
    rw [← hR] at hfl hfr hm
    simp only at hm
    by_cases he : e = .pick
    · subst he
      obtain ⟨t, u, rfl, hnx, hne, hm1, _⟩ := run_pick hR.symm
      have htt := hfl.2.1
      simp only [tot] at htt
      rw [all_pick (f := f) (by rw [← hR]), all_pick (f := g) (by rw [← hR])]
      have key : ∀ (l : List Nat), (∀ k ∈ l, k ∈ t.opts s) → ∀ a : Sm, l.foldl (fun a k => a.add (allA f (t.chose s k).1 ((t.chose s k).2 ++ u))) a = l.foldl (fun a k => a.add (allA g (t.chose s k).1 ((t.chose s k).2 ++ u))) a := by
        intro l
        induction l with
        | nil => intro _ a; rfl
        | cons k l ihl =>
          intro hkl a
          have hk := hkl k (by simp)
          have hc := chose_flat (hfr t (by simp)).1 (hfl.1 t (by simp)) s k
          have hq2 : tot ((t.chose s k).2 ++ u) + 1 ≤ tot ts := by rw [tot_app]; omega
          simp only [List.foldl_cons]
          rw [ih g (t.chose s k).1 ((t.chose s k).2 ++ u) (chose_lt hs hk) (fit_chose hfr s k).1 (hc.1.app hfl.1.tail) (by omega) (by omega) (by omega)]
          exact ihl (fun x hx => hkl x (by simp [hx])) _
      exact key _ (fun _ h => h) _
    · rw [all_leaf (f := f) (by rw [← hR]) he, all_leaf (f := g) (by rw [← hR]) he]
/-- an end, or a choice more -/
theorem PathAt.step {t : Ct} {s : Nat} {P : List UInt8} {n s' : Nat} {ts : List Ct} (h : PathAt t s P n s' ts) :
    (∃ m us e, e ≠ .pick ∧ e ≠ .long ∧ playA P 200 s [t] 0 = ⟨m, s', us, P.length, .fin e⟩ ∧ LeSm (leafS e s') (allA 201 s [t])) ∨
    (∃ m t1 us, playA P 200 s [t] 0 = ⟨m, s', t1 :: us, P.length, .asks⟩ ∧ t1.opts s' ≠ [] ∧ t1.WF ∧ t1.next s' = .pick ∧ P.length + 1 ≤ t.num ∧ ∀ k ∈ t1.opts s', ∃ n2 s2 ts2, PathAt t s (P ++ [decB k]) n2 s2 ts2) := by
  have htl : tot ts ≤ 200 := by have := h.n1; have := h.n2; omega
  have hfl := run_flat (s := s') (n := n) h.fit h.flat h.n1
  have hfr := fit_run0 (n := n) (s := s') h.fit
  have hm := run_le0 n s' ts
  have hpl := h.play []
  rw [List.append_nil] at hpl
  obtain ⟨⟨m, us, e⟩, hR⟩ : ∃ r, r = run n s' ts := ⟨_, rfl⟩
  rw [← hR] at hfl hfr hm
  simp only at hm
  have h200 := hfl.2.2.2 200 htl
  by_cases he : e = .pick
  · subst he
    obtain ⟨t1, u, rfl, hnx, hne, hm1, _⟩ := run_pick hR.symm
    refine .inr ⟨m, t1, u, by rw [hpl, play_asks hR.symm], hne, (hfr t1 (by simp)).1, hnx, ?_, fun k hk => ?_⟩
    · have htt := hfl.2.1
      simp only [tot] at htt
      have := h.tt
      have : 1 ≤ t1.num := by cases t1 <;> simp [Ct.num] <;> omega
      omega
    · have hc := chose_flat (hfr t1 (by simp)).1 (hfl.1 t1 (by simp)) s' k
      have htt := hfl.2.1
      simp only [tot] at htt
      have hq2 : tot ((t1.chose s' k).2 ++ u) + 1 + n ≤ tot ts + m := by rw [tot_app]; omega
      have h1 := h.tt
      have h2 := h.n2
      have h3 := h.n1
      refine ⟨m - 1, (t1.chose s' k).1, (t1.chose s' k).2 ++ u, fun rest => ?_, chose_lt h.hs hk, (fit_chose hfr s' k).1, hc.1.app hfl.1.tail, by rw [List.length_append]; simp only [List.length_cons, List.length_nil]; omega, by omega, by omega, ?_⟩
      · have := h.play (decB k :: rest)
        rw [List.append_assoc, List.singleton_append, this, play_on hR.symm hk (chc_decB (opts_lt hk)), List.length_append]
        rfl
      · refine LeSm.trans ?_ h.le
        rw [all_pick (f := 200) h200, all_fuel 201 200 _ _ (chose_lt h.hs hk) (fit_chose hfr s' k).1 (hc.1.app hfl.1.tail) (by omega) (by omega) (by omega)]
        exact le_sumO (F := fun k => allA 200 (t1.chose s' k).1 ((t1.chose s' k).2 ++ u)) (fun k hk => all_c 200 _ _ (chose_lt h.hs hk)) hk
  · refine .inl ⟨m, us, e, he, hfl.2.2.1, by rw [hpl, play_end hR.symm he], ?_⟩
    have := h.le
    rwa [all_leaf (f := 200) h200 he] at this
/-! ### numbers -/
theorem ones_or16 : ∀ a b : _root_.Fin 16, ones (bits .or .i64 (a.val : Int) (b.val : Int)) 4 ≤ ones (a.val : Int) 4 + ones (b.val : Int) 4 := by decide +kernel
theorem ones_or {a b : Int} (ha : C a) (hb : C b) : ones (bits .or .i64 a b) 4 ≤ ones a 4 + ones b 4 := by
  have := ones_or16 ⟨a.toNat, lt16 ha⟩ ⟨b.toNat, lt16 hb⟩
  simpa [toNat_cast ha, toNat_cast hb] using this
theorem ones_sh {s : Nat} (h : s < 4) : ones (sh s) 4 = 1 := by
  obtain rfl | rfl | rfl | rfl : s = 0 ∨ s = 1 ∨ s = 2 ∨ s = 3 := by omega
  all_goals decide +kernel
theorem ones_leaf (e : Fin) {s : Nat} (h : s < 4) : ones (leafS e s).ends 4 ≤ 1 := by
  have h0 : ones 0 4 = 0 := by decide +kernel
  cases e with
  | done => show ones (sh s) 4 ≤ 1; rw [ones_sh h]; omega
  | broke a => cases a <;> (show ones 0 4 ≤ 1; rw [h0]; omega)
  | long => show ones 0 4 ≤ 1; rw [h0]; omega
  | pick => show ones 0 4 ≤ 1; rw [h0]; omega
theorem ones_sum (l : List Nat) (F : Nat → Sm) (hC : ∀ k ∈ l, C (F k).ends) (h : ∀ k ∈ l, ones (F k).ends 4 ≤ ((F k).plays : Nat)) (a : Sm) (ha : C a.ends) (h1 : ones a.ends 4 ≤ (a.plays : Nat)) :
    ones (l.foldl (fun a k => a.add (F k)) a).ends 4 ≤ ((l.foldl (fun a k => a.add (F k)) a).plays : Nat) := by
  induction l generalizing a with
  | nil => exact h1
  | cons x l ih =>
    have hx := hC x (by simp)
    have h2 := ones_or ha hx
    have h3 := h x (by simp)
    refine ih (fun k hk => hC k (by simp [hk])) (fun k hk => h k (by simp [hk])) _ (C.or ha hx) ?_
    show ones (bits .or .i64 a.ends (F x).ends) 4 ≤ ((a.plays + (F x).plays : Nat) : Int)
    omega
theorem leaf_plays (e : Fin) (s : Nat) : (leafS e s).plays = 1 := by
  cases e with
  | broke a => cases a <;> rfl
  | _ => rfl
theorem all_ones (f : Nat) : ∀ (s : Nat) (ts : List Ct), s < 4 → ones (allA f s ts).ends 4 ≤ ((allA f s ts).plays : Nat) := by
  induction f with
  | zero => intro s ts _; show ones 0 4 ≤ 0; decide +kernel
  | succ f ih =>
    intro s ts hs
    obtain ⟨us, e, h⟩ : ∃ us e, (run 200 s ts).2 = (us, e) := ⟨_, _, rfl⟩
    by_cases hp : e = .pick
    · subst hp
      cases us with
      | nil =>
        have : allA (f + 1) s ts = leafS .pick s := by simp only [allA, h]
        rw [this, leaf_plays]; exact ones_leaf _ hs
      | cons t us =>
        rw [all_pick h]
        exact ones_sum _ _ (fun k hk => all_c f _ _ (chose_lt hs hk)) (fun k hk => ih _ _ (chose_lt hs hk)) _ C.zero (by show ones 0 4 ≤ 0; decide +kernel)
    · rw [all_leaf h hp, leaf_plays]; exact ones_leaf e hs
theorem all_pos (f : Nat) : ∀ (s : Nat) (ts : List Ct), FitC ts → 1 ≤ (allA (f + 1) s ts).plays ∨ ∃ t us, (run 200 s ts).2 = (t :: us, .pick) := fun s ts _ => by
  obtain ⟨us, e, h⟩ : ∃ us e, (run 200 s ts).2 = (us, e) := ⟨_, _, rfl⟩
  by_cases hp : e = .pick
  · subst hp
    cases us with
    | nil => left; have : allA (f + 1) s ts = leafS .pick s := by simp only [allA, h]
             rw [this, leaf_plays]; exact Nat.le_refl _
    | cons t us => right; exact ⟨t, us, h⟩
  · left; rw [all_leaf h hp, leaf_plays]; exact Nat.le_refl _
theorem foldl_ge (l : List Nat) (F : Nat → Sm) (k : Nat) (hk : k ∈ l) : (F k).plays ≤ (sumO l F).plays := by
  induction l with
  | nil => cases hk
  | cons x l ih =>
    have h1 := foldl_plays l F (Sm.zero.add (F x))
    have e : (Sm.zero.add (F x)).plays = (F x).plays := by simp [Sm.add, Sm.zero]
    show _ ≤ (l.foldl (fun a k => a.add (F k)) (Sm.zero.add (F x))).plays
    rw [h1, e]
    simp only [List.mem_cons] at hk
    rcases hk with rfl | hk
    · omega
    · have := ih hk
      have e2 : (l.foldl (fun a k => a.add (F k)) Sm.zero).plays = (sumO l F).plays := rfl
      omega
theorem all_one (f : Nat) : ∀ (s : Nat) (ts : List Ct), s < 4 → FitC ts → Flat ts → tot ts < f → tot ts ≤ 200 → 1 ≤ (allA f s ts).plays := by
  induction f with
  | zero => intro s ts _ _ _ h; omega
  | succ f ih =>
    intro s ts hs hf hl h1 h2
    have hfl := run_flat (s := s) (n := 200) hf hl h2
    have hfr := fit_run0 (n := 200) (s := s) hf
    have hm := run_le0 200 s ts
    obtain ⟨⟨m, us, e⟩, hR⟩ : ∃ r, r = run 200 s ts := ⟨_, rfl⟩
    rw [← hR] at hfl hfr hm
    simp only at hm
    by_cases he : e = .pick
    · subst he
      obtain ⟨t, u, rfl, hnx, hne, hm1, _⟩ := run_pick hR.symm
      have htt := hfl.2.1
      simp only [tot] at htt
      rw [all_pick (f := f) (by rw [← hR])]
      obtain ⟨k, hk⟩ : ∃ k, k ∈ t.opts s := List.exists_mem_of_ne_nil _ hne
      have hc := chose_flat (hfr t (by simp)).1 (hfl.1 t (by simp)) s k
      have hq2 : tot ((t.chose s k).2 ++ u) + 1 ≤ tot ts := by rw [tot_app]; omega
      exact Nat.le_trans (ih _ _ (chose_lt hs hk) (fit_chose hfr s k).1 (hc.1.app hfl.1.tail) (by omega) (by omega)) (foldl_ge (t.opts s) (fun k => allA f (t.chose s k).1 ((t.chose s k).2 ++ u)) k hk)
    · rw [all_leaf (by rw [← hR]) he, leaf_plays]; exact Nat.le_refl _
/-- without choices there is one play -/
theorem all_single {f s : Nat} {t : Ct} (ht : t.WF) (hl : t.len ≤ 200) (h1 : t.knows noA = true) (h2 : t.knows noD = true) : (allA (f + 1) s [t]).plays = 1 := by
  have hfr := fit_run0 (n := 200) (s := s) (fitOne ht hl)
  have hA := run_knows (n := 200) (s := s) (q := noA) (ts := [t]) (fun x hx => by simp at hx; subst hx; exact h1)
  have hD := run_knows (n := 200) (s := s) (q := noD) (ts := [t]) (fun x hx => by simp at hx; subst hx; exact h2)
  obtain ⟨⟨m, us, e⟩, hR⟩ : ∃ r, r = run 200 s [t] := ⟨_, rfl⟩
  rw [← hR] at hfr hA hD
  by_cases he : e = .pick
  · subst he
    obtain ⟨t1, u, rfl, hnx, _⟩ := run_pick hR.symm
    have := who_noA (hA t1 (by simp))
    rw [who_noD (hfr t1 (by simp)).1 hnx (hD t1 (by simp))] at this
    cases this
  · rw [all_leaf (by rw [← hR]) he, leaf_plays]
end Go.Proofs.YtaeibhpkcikaaaaGreatDoor
