/- Plays: the reference's PlayContract and ChoicesAt. -/
import Derived.Test.YtihmdfhgkfgmnaaSpP7
import Derived.OwnWalk
namespace Go.Proofs.Ytihmdfhgkfgmnaa
set_option linter.unusedVariables false
set_option linter.unusedSimpArgs false
open Go.RowKit Go.Shelf
set_option maxRecDepth 100000
set_option maxHeartbeats 4000000

def stOk (s : Int) : Bool := decide (0 ≤ s) && decide (s < 4)
theorem isCt_txt {t : Ct} (h : t.WF) (hl : t.len ≤ 200) : isCt t.text = true := isCt_iff.2 ⟨t, h, rfl, by rw [t.text_size]; exact hl⟩
theorem stOk_nat {s : Int} (h : stOk s = true) : ∃ n : Nat, n < 4 ∧ s = n := by
  simp only [stOk, Bool.and_eq_true, decide_eq_true_eq] at h
  exact ⟨s.toNat, by omega, by omega⟩
theorem stOk_of {n : Nat} (h : n < 4) : stOk (n : Int) = true := by
  simp only [stOk, Bool.and_eq_true, decide_eq_true_eq]; omega
theorem spec_l1State (s : Int) (w : World) : Calls Try.prog 116 #[.int .i64 s] w fun e w' => e = .returned (.bool (stOk s)) ∧ w = w' := by
  have HS : Hid (stOk s = (decide (0 ≤ s) && decide (s < 4))) := rfl
  by_cases h1 : 0 ≤ s
  · by_cases h2 : s < 4
    · have e : Hid (stOk s = true) := by show _ = _; rw [HS.out]; simp [h1, h2]
      have h3 : s ≤ 3 := by omega
      go_enter Try.func116, Try.ntmps116
      go_wp2_with go_in
      go_ret
      rw [e.out]; exact ⟨rfl, rfl⟩
    · have e : Hid (stOk s = false) := by show _ = _; rw [HS.out]; simp [h1, h2]
      have h3 : ¬ s ≤ 3 := by omega
      go_enter Try.func116, Try.ntmps116
      go_wp2_with go_in
      go_ret
      rw [e.out]; exact ⟨rfl, rfl⟩
  · have e : Hid (stOk s = false) := by show _ = _; rw [HS.out]; simp [h1]
    go_enter Try.func116, Try.ntmps116
    go_wp2_with go_in
    go_ret
    rw [e.out]; exact ⟨rfl, rfl⟩
theorem spec_l6Ready (c : ByteArray) (s : Int) (w : World) (hc : c.size ≤ 4611686018427387904) : Calls Try.prog 53 #[.string c, .int .i64 s] w fun e w' => e = .returned (.bool (isCt c && stOk s)) ∧ w = w' := by
  cases h : isCt c
  all_goals
    have H := Lib.hid h
    clear h
    go_enter Try.func53, Try.ntmps53
    go_wp2_with fail
    refine (spec_ContractValid _ _ hc).mono ?_
    rintro e w' ⟨rfl, rfl⟩
    rw [H.out]
    go_wp2_with fail
  · go_ret
    exact ⟨rfl, rfl⟩
  · refine (spec_l1State _ _).mono ?_
    rintro e w' ⟨rfl, rfl⟩
    go_wp2_with fail
    go_ret
    exact ⟨by simp, rfl⟩
theorem spec_PlayContract_no (c picks : ByteArray) (s : Int) (w : World) (hc : c.size ≤ 4611686018427387904) (h : (isCt c && stOk s) = false) :
    Calls Try.prog 16 #[.string c, .int .i64 s, .string picks] w fun e w' => e = .returned (.tuple #[.int .i64 0, .int .i64 0, .string ⟨#[]⟩]) ∧ w = w' := by
  have H := Lib.hid h
  clear h
  go_enter Try.func16, Try.ntmps16
  go_wp2_with fail
  refine (spec_l6Ready _ _ _ hc).mono ?_
  rintro e w' ⟨rfl, rfl⟩
  rw [H.out]
  go_wp2_with fail
  go_ret3
  exact ⟨rfl, rfl⟩
theorem spec_PlayContract_yes (t : Ct) (ht : t.WF) (hlen : t.len ≤ 200) (s : Nat) (hs : s < 4) (picks : ByteArray) (hp : picks.size ≤ 4611686018427387904) (w : World) :
    Calls Try.prog 16 #[.string t.text, .int .i64 s, .string picks] w fun e w' => e = .returned (.tuple #[.int .i64 ((t.play s picks.data.toList).state : Nat), .int .i64 ((t.play s picks.data.toList).used : Nat), .string (toldS (t.play s picks.data.toList).how)]) ∧ Below w.heap.size w w' := by
  have H : Hid ((isCt t.text && stOk (s : Int)) = true) := by show _ = _; rw [isCt_txt ht hlen, stOk_of hs]; rfl
  go_enter Try.func16, Try.ntmps16
  go_wp2_with fail
  refine (spec_l6Ready _ _ _ (by rw [t.text_size]; omega)).mono ?_
  rintro e w' ⟨rfl, rfl⟩
  rw [H.out]
  go_wp2_with fail
  refine (spec_l6Play t ht hlen s hs picks hp _).mono ?_
  rintro e w1 ⟨hb1, g, cap, rfl, hT, hc⟩
  go_wp2_with (refine wp_store_BlkNew rfl _ _ _ rfl rfl rfl at_i rfl (by simp [Value.oneCell']) ?_)
  go_ret3
  exact ⟨rfl, below_new hb1 _⟩
theorem spec_ChoicesAt_no (c picks : ByteArray) (s : Int) (w : World) (hc : c.size ≤ 4611686018427387904) (h : (isCt c && stOk s) = false) :
    Calls Try.prog 18 #[.string c, .int .i64 s, .string picks] w fun e w' => e = .returned (.tuple #[.string ⟨#[]⟩, .string ⟨#[]⟩]) ∧ w = w' := by
  have H := Lib.hid h
  clear h
  go_enter Try.func18, Try.ntmps18
  go_wp2_with fail
  refine (spec_l6Ready _ _ _ hc).mono ?_
  rintro e w' ⟨rfl, rfl⟩
  rw [H.out]
  go_wp2_with fail
  go_ret2
  exact ⟨rfl, rfl⟩
/-- what ChoicesAt comes to -/
def askW (p : Spot) : ByteArray := match p.how, p.todo with
  | .asks, t :: _ => whoN t.who
  | _, _ => ⟨#[]⟩
def askO (p : Spot) : ByteArray := match p.how, p.todo with
  | .asks, t :: _ => optsB (t.opts p.state)
  | _, _ => ⟨#[]⟩
/-- a play that asks stands before a choice -/
theorem play_asks_at {cs : List UInt8} {n s : Nat} {ts : List Ct} {k : Nat} (hs : s < 4) (hf : FitC ts) (hl : ts.length + n ≤ 1000) :
    (playA cs n s ts k).state < 4 ∧ FitC (playA cs n s ts k).todo ∧ (playA cs n s ts k).todo.length ≤ 1000 ∧ (playA cs n s ts k).how ≠ .fin .pick ∧
    ((playA cs n s ts k).how = .asks → ∃ t us, (playA cs n s ts k).todo = t :: us ∧ t.next (playA cs n s ts k).state = .pick ∧ t.opts (playA cs n s ts k).state ≠ []) := by
  induction cs generalizing n s ts k with
  | nil =>
    obtain ⟨⟨m, us, f⟩, hR⟩ : ∃ r, r = run n s ts := ⟨_, rfl⟩
    have hfr := fit_run (s := s) hf hl
    rw [← hR] at hfr
    by_cases hp : f = .pick
    · subst hp
      rw [play_asks hR.symm]
      obtain ⟨t, u, h1, h2, h3, _⟩ := run_pick hR.symm
      exact ⟨hs, hfr.1, by have := hfr.2; simp only at this ⊢; omega, by simp, fun _ => ⟨t, u, h1, h2, h3⟩⟩
    · rw [play_end hR.symm hp]
      exact ⟨hs, hfr.1, by have := hfr.2; simp only at this ⊢; omega, by simpa using hp, by simp⟩
  | cons c cs ih =>
    obtain ⟨⟨m, us, f⟩, hR⟩ : ∃ r, r = run n s ts := ⟨_, rfl⟩
    have hfr := fit_run (s := s) hf hl
    rw [← hR] at hfr
    by_cases hp : f = .pick
    · subst hp
      obtain ⟨t, u, h1, h2, h3, h4, h5⟩ := run_pick hR.symm
      subst h1
      cases hi : isOpt (t.opts s) c
      · rw [play_bad hR.symm hi]
        exact ⟨hs, hfr.1, by have := hfr.2; simp only at this ⊢; omega, by simp, by simp⟩
      · obtain ⟨d, hd, hc⟩ := isOpt_iff.1 hi
        rw [play_on hR.symm hd hc]
        have hF := fit_chose hfr.1 s d
        exact ih (chose_lt hs hd) hF.1 (by rw [List.length_append]; have := hfr.2; simp only [List.length_cons] at this; omega)
    · rw [play_end hR.symm hp]
      exact ⟨hs, hfr.1, by have := hfr.2; simp only at this ⊢; omega, by simpa using hp, by simp⟩
theorem fit_one {t : Ct} (ht : t.WF) (hl : t.len ≤ 200) : FitC [t] := fun x hx => by simp at hx; subst hx; exact ⟨ht, hl⟩
theorem spec_ChoicesAt_yes (t : Ct) (ht : t.WF) (hlen : t.len ≤ 200) (s : Nat) (hs : s < 4) (picks : ByteArray) (hp : picks.size ≤ 4611686018427387904) (w : World) :
    Calls Try.prog 18 #[.string t.text, .int .i64 s, .string picks] w fun e w' => e = .returned (.tuple #[.string (askW (t.play s picks.data.toList)), .string (askO (t.play s picks.data.toList))]) ∧ Below w.heap.size w w' := by
  obtain ⟨fs, hu⟩ := at_u
  have H : Hid ((isCt t.text && stOk (s : Int)) = true) := by show _ = _; rw [isCt_txt ht hlen, stOk_of hs]; rfl
  have HA := play_asks_at (cs := picks.data.toList) (n := 200) (k := 0) hs (fit_one ht hlen) (by simp)
  have HL := Lib.hid (spec_l6Play t ht hlen s hs picks hp)
  have HE : ∃ p, t.play s picks.data.toList = p := ⟨_, rfl⟩
  obtain ⟨p, hpe⟩ := HE
  have HA2 : p.state < 4 ∧ FitC p.todo ∧ p.todo.length ≤ 1000 ∧ p.how ≠ .fin .pick ∧ (p.how = .asks → ∃ t us, p.todo = t :: us ∧ t.next p.state = .pick ∧ t.opts p.state ≠ []) := by rw [← hpe]; exact HA
  rw [hpe] at HL ⊢
  clear HA hpe
  go_enter Try.func18, Try.ntmps18
  go_wp2_with fail
  refine (spec_l6Ready _ _ _ (by rw [t.text_size]; omega)).mono ?_
  rintro e w' ⟨rfl, rfl⟩
  rw [H.out]
  go_wp2_with fail
  refine (HL.out _).mono ?_
  rintro e w1 ⟨hb1, g, cap, rfl, hT, hc⟩
  clear HL
  obtain ⟨n0, ps, td, us0, st⟩ := p
  simp only at *
  obtain ⟨hs4, hfit, hlen4, hnp, hask⟩ := HA2
  have HB := Blk.new w1 65 #[.slice (some ⟨g, 0, none⟩) td.length cap, .int .i64 ps]
  have hT1 := hT.grown (below_new (Below.refl _ _) (Obj.cells #[.slice (some ⟨g, 0, none⟩) td.length cap, .int .i64 ps] 65))
  have hb2 := below_new hb1 (Obj.cells #[.slice (some ⟨g, 0, none⟩) td.length cap, .int .i64 ps] 65)
  cases st with
  | asks =>
    obtain ⟨t1, us1, rfl, hnx, hne⟩ := hask rfl
    rw [show toldS .asks = ⟨#[97, 115, 107, 115]⟩ from rfl]
    have hf1 := hfit t1 (by simp)
    simp only [List.length_cons] at *
    have HWH : Hid (askW ⟨n0, ps, t1 :: us1, us0, .asks⟩ = whoN t1.who) := rfl
    have HOP : Hid (askO ⟨n0, ps, t1 :: us1, us0, .asks⟩ = optsB (t1.opts ps)) := rfl
    go_wp2_with (refine wp_store_BlkNew rfl _ _ _ rfl rfl rfl at_i rfl (by simp [Value.oneCell']) ?_)
    generalize w1.alloc (Obj.cells #[.slice (some ⟨g, 0, none⟩) (us1.length + 1) cap, .int .i64 ps] 65) = w2 at *
    refine wp_region_held_drew (S := fun W => Below w2.heap.size w2 W) (by kernel_rfl) ?_ (fun hS => ?_)
    · exact (Below.refl _ _).drew
    refine wpAnyH_take (i := 0) (v := .agg #[.slice (some ⟨g, 0, none⟩) (us1.length + 1) cap, .int .i64 ps]) rfl (by kernel_rfl) (by kernel_rfl) (by kernel_rfl) (fun _ _ _ h => h) (yields_Blk (by rfl) _ _ rfl w1.heap.size rfl (fun _ h => HB.grown h) hu rfl at_i) hS ?_
    simp only [Act.put, List.getElem_toArray, List.getElem_cons_succ, List.getElem_cons_zero, List.setIfInBounds_toArray, List.set_cons_zero, List.set_cons_succ]
    refine wpAnyH_take (i := 2) (v := .agg #[.slice (some ⟨g, 0, none⟩) (us1.length + 1) cap, .int .i64 ps]) rfl (by kernel_rfl) (by kernel_rfl) (by kernel_rfl) (fun _ _ _ h => h) (yields_Blk (by rfl) _ _ rfl w1.heap.size rfl (fun _ h => HB.grown h) hu rfl at_i) hS ?_
    simp only [Act.put, List.getElem_toArray, List.getElem_cons_succ, List.getElem_cons_zero, List.setIfInBounds_toArray, List.set_cons_zero, List.set_cons_succ]
    have HWHO : ∀ W, Below w2.heap.size w2 W → Calls Try.prog 57 #[.agg #[.slice (some ⟨g, 0, none⟩) (us1.length + 1) cap, .int .i64 ps]] W fun e w' => e = .returned (.string (whoN t1.who)) ∧ Below W.heap.size W w' := fun W h => spec_l6Who t1 us1 ps g cap W (hT1.grown h) (by omega)
    have HOPT : ∀ W, Below w2.heap.size w2 W → Calls Try.prog 58 #[.agg #[.slice (some ⟨g, 0, none⟩) (us1.length + 1) cap, .int .i64 ps]] W fun e w' => e = .returned (.string (optsB (t1.opts ps))) ∧ Below W.heap.size W w' := fun W h => spec_l6Options t1 hf1.1 us1 ps hs4 hnx g cap W (hT1.grown h) (by omega)
    refine wpAnyH_ready (rs := [1]) (by kernel_rfl) (by simp) ?_
    refine AllReadyH.cons rfl (fun K hK => ?_) AllReadyH.nil
    rw [if_pos (by rfl)]
    refine op_call 57 _ _ rfl (enters_of Try.func57 (by kernel_rfl) rfl) _ (HWHO _ hS) rfl ?_
    rintro e w3 ⟨rfl, hb3⟩
    refine ⟨_, rfl, ?_⟩
    refine hK.out _ _ ?_ (fun hS1 => ?_)
    · exact below_step hS hb3
    clear hK K
    replace hS := hS1
    clear hS1
    simp only [Act.put, List.getElem_toArray, List.getElem_cons_succ, List.getElem_cons_zero, List.setIfInBounds_toArray, List.set_cons_zero, List.set_cons_succ]
    refine wpAnyH_ready (rs := [3]) (by kernel_rfl) (by simp) ?_
    refine AllReadyH.cons rfl (fun K hK => ?_) AllReadyH.nil
    rw [if_pos (by rfl)]
    refine op_call 58 _ _ rfl (enters_of Try.func58 (by kernel_rfl) rfl) _ (HOPT _ hS) rfl ?_
    rintro e w4 ⟨rfl, hb4⟩
    refine ⟨_, rfl, ?_⟩
    refine hK.out _ _ ?_ (fun hS1 => ?_)
    · exact below_step hS hb4
    clear hK K
    replace hS := hS1
    clear hS1
    simp only [Act.put, List.getElem_toArray, List.getElem_cons_succ, List.getElem_cons_zero, List.setIfInBounds_toArray, List.set_cons_zero, List.set_cons_succ]
    refine wpAnyH_take (i := 4) (v := .string (whoN t1.who)) rfl (by kernel_rfl) (by kernel_rfl) (by kernel_rfl) (fun _ _ _ h => h) (Or.inl ⟨by rfl, ?_⟩) hS ?_
    · intro w hSw
      go_simp
    simp only [Act.put, List.getElem_toArray, List.getElem_cons_succ, List.getElem_cons_zero, List.setIfInBounds_toArray, List.set_cons_zero, List.set_cons_succ]
    refine wpAnyH_take (i := 5) (v := .string (optsB (t1.opts ps))) rfl (by kernel_rfl) (by kernel_rfl) (by kernel_rfl) (fun _ _ _ h => h) (Or.inl ⟨by rfl, ?_⟩) hS ?_
    · intro w hSw
      go_simp
    simp only [Act.put, List.getElem_toArray, List.getElem_cons_succ, List.getElem_cons_zero, List.setIfInBounds_toArray, List.set_cons_zero, List.set_cons_succ]
    refine wpAnyH_done (by kernel_rfl) ?_ _
    go_wp2_with fail
    go_ret2
    rw [HWH.out, HOP.out]
    exact ⟨rfl, below_step hb2 hS⟩
  | bad =>
    clear hask
    have HWH : Hid (askW ⟨n0, ps, td, us0, .bad⟩ = ⟨#[]⟩) := rfl
    have HOP : Hid (askO ⟨n0, ps, td, us0, .bad⟩ = ⟨#[]⟩) := rfl
    rw [show toldS .bad = ⟨#[98, 97, 100]⟩ from rfl]
    go_wp2_with (refine wp_store_BlkNew rfl _ _ _ rfl rfl rfl at_i rfl (by simp [Value.oneCell']) ?_)
    go_ret2
    rw [HWH.out, HOP.out]
    exact ⟨rfl, hb2⟩
  | fin f =>
    clear hask
    cases f with
    | pick => exact absurd rfl hnp
    | done =>
      have HWH : Hid (askW ⟨n0, ps, td, us0, (.fin .done)⟩ = ⟨#[]⟩) := rfl
      have HOP : Hid (askO ⟨n0, ps, td, us0, (.fin .done)⟩ = ⟨#[]⟩) := rfl
      rw [show toldS (.fin .done) = ⟨#[100, 111, 110, 101]⟩ from rfl]
      go_wp2_with (refine wp_store_BlkNew rfl _ _ _ rfl rfl rfl at_i rfl (by simp [Value.oneCell']) ?_)
      go_ret2
      rw [HWH.out, HOP.out]
      exact ⟨rfl, hb2⟩
    | long =>
      have HWH : Hid (askW ⟨n0, ps, td, us0, (.fin .long)⟩ = ⟨#[]⟩) := rfl
      have HOP : Hid (askO ⟨n0, ps, td, us0, (.fin .long)⟩ = ⟨#[]⟩) := rfl
      rw [show toldS (.fin .long) = ⟨#[108, 111, 110, 103]⟩ from rfl]
      go_wp2_with (refine wp_store_BlkNew rfl _ _ _ rfl rfl rfl at_i rfl (by simp [Value.oneCell']) ?_)
      go_ret2
      rw [HWH.out, HOP.out]
      exact ⟨rfl, hb2⟩
    | broke a =>
      cases a
      · skip
        have HWH : Hid (askW ⟨n0, ps, td, us0, (.fin (.broke false))⟩ = ⟨#[]⟩) := rfl
        have HOP : Hid (askO ⟨n0, ps, td, us0, (.fin (.broke false))⟩ = ⟨#[]⟩) := rfl
        rw [show toldS (.fin (.broke false)) = ⟨#[100, 101, 109, 111, 110]⟩ from rfl]
        go_wp2_with (refine wp_store_BlkNew rfl _ _ _ rfl rfl rfl at_i rfl (by simp [Value.oneCell']) ?_)
        go_ret2
        rw [HWH.out, HOP.out]
        exact ⟨rfl, hb2⟩
      · skip
        have HWH : Hid (askW ⟨n0, ps, td, us0, (.fin (.broke true))⟩ = ⟨#[]⟩) := rfl
        have HOP : Hid (askO ⟨n0, ps, td, us0, (.fin (.broke true))⟩ = ⟨#[]⟩) := rfl
        rw [show toldS (.fin (.broke true)) = ⟨#[97, 110, 103, 101, 108]⟩ from rfl]
        go_wp2_with (refine wp_store_BlkNew rfl _ _ _ rfl rfl rfl at_i rfl (by simp [Value.oneCell']) ?_)
        go_ret2
        rw [HWH.out, HOP.out]
        exact ⟨rfl, hb2⟩
end Go.Proofs.Ytihmdfhgkfgmnaa
