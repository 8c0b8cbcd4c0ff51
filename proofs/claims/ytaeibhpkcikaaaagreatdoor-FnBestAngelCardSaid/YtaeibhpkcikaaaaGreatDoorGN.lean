/- Plays: the reference's plays. -/
import Derived.Test.YtaeibhpkcikaaaaGreatDoorGL
import Derived.OwnWalk
/- SpP7 -/
namespace Go.Proofs.YtaeibhpkcikaaaaGreatDoor
set_option linter.unusedVariables false
set_option linter.unusedSimpArgs false
open Go.RowKit Go.Shelf
set_option maxRecDepth 100000
set_option maxHeartbeats 4000000

theorem op_load_Blk {P : Program} {o : Oper} {a : Act} {w : World} {Q : Exit → Act → World → Prop} {K : Act → World → Prop} (ty : TypeId) (x : Operand) (ho : o.op = .load ty x) (g : Nat) (hx : a.eval x = .pointer (some ⟨g, 0, none⟩)) {t : TypeId} {c : Array Value} {d : TypeDesc}
    (hg : Blk w g t c) (hu : P.underlying ty = some d) (hd : (match d with | .struct _ | .array _ _ => true | _ => false) = true) (hi : (P.info? ty).map (·.size) = some c.size)
    (h : K (a.put o.dst (.agg c)) w) : o.wp P a w K Q := wp_load_row ty x ho g hx t c (0, 0) d hg.eq hu hd hi h
/-- how a play stands, as the reference names it -/
def toldS : Stand → ByteArray
  | .fin e => toldF e
  | .asks => ⟨#[97, 115, 107, 115]⟩
  | .bad => ⟨#[98, 97, 100]⟩
def PlayEnd (p : Spot) (w : World) (e : Ending) (w' : World) : Prop := Below w.heap.size w w' ∧
  ∃ g cap, e = .returned (.tuple #[.agg #[.slice (some ⟨g, 0, none⟩) p.todo.length cap, .int .i64 p.state], .int .i64 (p.used : Nat), .string (toldS p.how)]) ∧ Todo w' g p.todo ∧ p.todo.length ≤ cap
structure PlayAt (w wr : World) (S0 : Spot) (picks : ByteArray) (n s : Nat) (ts : List Ct) (k g cap : Nat) : Prop where
  play : playA (picks.data.toList.drop k) n s ts k = S0
  hk : k ≤ picks.size
  hs : s < 4
  fit : FitC ts
  len : ts.length + n ≤ 1000
  hcap : ts.length ≤ cap
  a : Blk wr (w.heap.size + 1 + 1) 38 #[.slice (some ⟨g, 0, none⟩) ts.length cap, .int .i64 s]
  z : Blk wr w.heap.size 38 #[.slice none 0 0, .int .i64 0]
  t : Todo wr g ts
  b : Below w.heap.size w wr
theorem PlayAt.grown {w wr wr' : World} {S0 : Spot} {picks : ByteArray} {n s : Nat} {ts : List Ct} {k g cap : Nat} (h : PlayAt w wr S0 picks n s ts k g cap) (hb : Below wr.heap.size wr wr') : PlayAt w wr' S0 picks n s ts k g cap :=
  ⟨h.play, h.hk, h.hs, h.fit, h.len, h.hcap, h.a.grown hb, h.z.grown hb, h.t.grown hb, below_step h.b hb⟩
/-- a run's end is stored -/
structure PlayMid (w wr : World) (S0 : Spot) (picks : ByteArray) (n s : Nat) (ts : List Ct) (k : Nat) (m : Nat) (us : List Ct) (e : Fin) (g cap : Nat) : Prop where
  play : playA (picks.data.toList.drop k) n s ts k = S0
  run : run n s ts = (m, us, e)
  hk : k ≤ picks.size
  hs : s < 4
  fit : FitC us
  len : us.length + m ≤ 1000
  hcap : us.length ≤ cap
  a : Blk wr (w.heap.size + 1 + 1) 38 #[.slice (some ⟨g, 0, none⟩) us.length cap, .int .i64 s]
  z : Blk wr w.heap.size 38 #[.slice none 0 0, .int .i64 0]
  t : Todo wr g us
  b : Below w.heap.size w wr
theorem PlayMid.grown {w wr wr' : World} {S0 : Spot} {picks : ByteArray} {n s : Nat} {ts : List Ct} {k m : Nat} {us : List Ct} {e : Fin} {g cap : Nat} (h : PlayMid w wr S0 picks n s ts k m us e g cap) (hb : Below wr.heap.size wr wr') : PlayMid w wr' S0 picks n s ts k m us e g cap :=
  ⟨h.play, h.run, h.hk, h.hs, h.fit, h.len, h.hcap, h.a.grown hb, h.z.grown hb, h.t.grown hb, below_step h.b hb⟩
theorem PlayMid.done {w wr : World} {S0 : Spot} {picks : ByteArray} {n s : Nat} {ts : List Ct} {k m : Nat} {us : List Ct} {f : Fin} {g cap : Nat} (h : PlayMid w wr S0 picks n s ts k m us f g cap) (st : Stand) (hS : S0 = ⟨m, s, us, k, st⟩) (T : ByteArray) (hT : toldS st = T) :
    PlayEnd S0 w (.returned (.tuple #[.agg #[.slice (some ⟨g, 0, none⟩) us.length cap, .int .i64 s], .int .i64 (k : Nat), .string T])) (wr.setRow w.heap.size #[.slice (some ⟨g, 0, none⟩) us.length cap, .int .i64 s]) := by
  subst hS; subst hT
  exact ⟨below_setRow h.b (Nat.le_refl _) _, g, cap, rfl, h.t.setRow (i := 0) h.z _, h.hcap⟩
theorem drop_at (picks : ByteArray) (k : Nat) (hk : k < picks.size) : picks.data.toList.drop k = bt picks k :: picks.data.toList.drop (k + 1) := drop_bt picks k hk
theorem drop_end (picks : ByteArray) : picks.data.toList.drop picks.size = [] := by
  rw [List.drop_eq_nil_iff]; exact Nat.le_of_eq rfl

end Go.Proofs.YtaeibhpkcikaaaaGreatDoor

/- SpP8 -/
namespace Go.Proofs.YtaeibhpkcikaaaaGreatDoor
set_option linter.unusedVariables false
set_option linter.unusedSimpArgs false
open Go.RowKit Go.Shelf
set_option maxRecDepth 100000
set_option maxHeartbeats 4000000

def stOk (s : Int) : Bool := decide (0 ≤ s) && decide (s < 4)
theorem isCt_txt {t : Ct} (h : t.WF) (hl : t.len ≤ 200) : isCt t.text = true := isCt_iff.2 ⟨t, h, rfl, by rw [t.text_size]; exact hl⟩
theorem stOk_nat {s : Int} (h : stOk s = true) : ∃ n : Nat, n < 4 ∧ s = n := by
  simp only [stOk, Bool.and_eq_true, decide_eq_true_eq] at h
  exact ⟨s.toNat, by omega, by omega⟩
theorem stOk_of {n : Nat} (h : n < 4) : stOk (n : Int) = true := by
  simp only [stOk, Bool.and_eq_true, decide_eq_true_eq]; omega
theorem spec_l1State (s : Int) (w : World) : Calls Tryz.prog 42 #[.int .i64 s] w fun e w' => e = .returned (.bool (stOk s)) ∧ w = w' := by
  have HS : Hid (stOk s = (decide (0 ≤ s) && decide (s < 4))) := rfl
  by_cases h1 : 0 ≤ s
  · by_cases h2 : s < 4
    · have e : Hid (stOk s = true) := by show _ = _; rw [HS.out]; simp [h1, h2]
      have h3 : s ≤ 3 := by omega
      go_enter Tryz.func42, Tryz.ntmps42
      go_wp2_with go_in
      go_ret
      rw [e.out]; exact ⟨rfl, rfl⟩
    · have e : Hid (stOk s = false) := by show _ = _; rw [HS.out]; simp [h1, h2]
      have h3 : ¬ s ≤ 3 := by omega
      go_enter Tryz.func42, Tryz.ntmps42
      go_wp2_with go_in
      go_ret
      rw [e.out]; exact ⟨rfl, rfl⟩
  · have e : Hid (stOk s = false) := by show _ = _; rw [HS.out]; simp [h1]
    go_enter Tryz.func42, Tryz.ntmps42
    go_wp2_with go_in
    go_ret
    rw [e.out]; exact ⟨rfl, rfl⟩
theorem spec_l6Ready (c : ByteArray) (s : Int) (w : World) (hc : c.size ≤ 4611686018427387904) : Calls Tryz.prog 11 #[.string c, .int .i64 s] w fun e w' => e = .returned (.bool (isCt c && stOk s)) ∧ w = w' := by
  cases h : isCt c
  all_goals
    have H := Lib.hid h
    clear h
    go_enter Tryz.func11, Tryz.ntmps11
    go_wp2_with fail
    refine (spec_ContractValid _ _ hc).mono ?_
    rintro e w' ⟨rfl, rfl⟩
    rw [H.out]
    go_wp2_with fail
  · go_ret
    exact ⟨rfl, rfl⟩
  · refine (spec_l1State _ _).mono ?_
    rintro e w' ⟨rfl, rfl⟩
    go_wp2_with fail
    go_ret
    exact ⟨by simp, rfl⟩
/-- what ChoicesAt comes to -/
def askW (p : Spot) : ByteArray := match p.how, p.todo with
  | .asks, t :: _ => whoN t.who
  | _, _ => ⟨#[]⟩
def askO (p : Spot) : ByteArray := match p.how, p.todo with
  | .asks, t :: _ => optsB (t.opts p.state)
  | _, _ => ⟨#[]⟩
/-- a play that asks stands before a choice -/
theorem play_asks_at {cs : List UInt8} {n s : Nat} {ts : List Ct} {k : Nat} (hs : s < 4) (hf : FitC ts) (hl : ts.length + n ≤ 1000) :
    (playA cs n s ts k).state < 4 ∧ FitC (playA cs n s ts k).todo ∧ (playA cs n s ts k).todo.length ≤ 1000 ∧ (playA cs n s ts k).how ≠ .fin .pick ∧
    ((playA cs n s ts k).how = .asks → ∃ t us, (playA cs n s ts k).todo = t :: us ∧ t.next (playA cs n s ts k).state = .pick ∧ t.opts (playA cs n s ts k).state ≠ []) := by
  induction cs generalizing n s ts k with
  | nil =>
    obtain ⟨⟨m, us, f⟩, hR⟩ : ∃ r, r = run n s ts := ⟨_, rfl⟩
    have hfr := fit_run (s := s) hf hl
    rw [← hR] at hfr
    by_cases hp : f = .pick
    · subst hp
      rw [play_asks hR.symm]
      obtain ⟨t, u, h1, h2, h3, _⟩ := run_pick hR.symm
      exact ⟨hs, hfr.1, by have := hfr.2; simp only at this ⊢; omega, by simp, fun _ => ⟨t, u, h1, h2, h3⟩⟩
    · rw [play_end hR.symm hp]
      exact ⟨hs, hfr.1, by have := hfr.2; simp only at this ⊢; omega, by simpa using hp, by simp⟩
  | cons c cs ih =>
    obtain ⟨⟨m, us, f⟩, hR⟩ : ∃ r, r = run n s ts := ⟨_, rfl⟩
    have hfr := fit_run (s := s) hf hl
    rw [← hR] at hfr
    by_cases hp : f = .pick
    · subst hp
      obtain ⟨t, u, h1, h2, h3, h4, h5⟩ := run_pick hR.symm
      subst h1
      cases hi : isOpt (t.opts s) c
      · rw [play_bad hR.symm hi]
        exact ⟨hs, hfr.1, by have := hfr.2; simp only at this ⊢; omega, by simp, by simp⟩
      · obtain ⟨d, hd, hc⟩ := isOpt_iff.1 hi
        rw [play_on hR.symm hd hc]
        have hF := fit_chose hfr.1 s d
        exact ih (chose_lt hs hd) hF.1 (by rw [List.length_append]; have := hfr.2; simp only [List.length_cons] at this; omega)
    · rw [play_end hR.symm hp]
      exact ⟨hs, hfr.1, by have := hfr.2; simp only at this ⊢; omega, by simpa using hp, by simp⟩
theorem fit_one {t : Ct} (ht : t.WF) (hl : t.len ≤ 200) : FitC [t] := fun x hx => by simp at hx; subst hx; exact ⟨ht, hl⟩
end Go.Proofs.YtaeibhpkcikaaaaGreatDoor
