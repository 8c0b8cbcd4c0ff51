/- Plays with the best choices: the program's BestPlay returns what the reference's returns: the law's walk. -/
import Derived.Test.YtaeibhpkcikaaaaGreatDoorImB2
namespace Go.Proofs.YtaeibhpkcikaaaaGreatDoor
set_option linter.unusedVariables false
set_option linter.unusedSimpArgs false
open Go.RowKit Go.Shelf
set_option maxRecDepth 100000
set_option maxHeartbeats 10000000

def BPNo (w : World) (e : Ending) (w' : World) : Prop := e = .returned (.tuple #[.string ⟨#[]⟩, .int .i64 0, .string ⟨#[]⟩]) ∧ Below w.heap.size w w'
def angB : ByteArray := ⟨#[97, 110, 103, 101, 108]⟩
def demB : ByteArray := ⟨#[100, 101, 109, 111, 110]⟩
theorem spec_bp_no1 (c : ByteArray) (s p : Int) (who others : ByteArray) (hc : c.size ≤ 4611686018427387904) (h : (isCt c && stOk s) = false) (w : World) : Calls Tryz.prog 5 #[.string c, .int .i64 s, .int .i64 p, .string who, .string others] w (BPNo w) := by
  have H := Lib.hid h
  clear h
  go_enter Tryz.func5, Tryz.ntmps5
  go_wp2_with fail
  refine (spec_l6Ready _ _ _ hc).mono ?_
  rintro e w' ⟨rfl, rfl⟩
  rw [H.out]
  go_wp2_with fail
  go_ret3
  exact ⟨rfl, Below.refl _ _⟩
theorem spec_bp_no2 (t : Ct) (ht : t.WF) (hlen : t.len ≤ 200) (hfl : t.flat = false) (s : Nat) (hs : s < 4) (p : Int) (who others : ByteArray) (w : World) : Calls Tryz.prog 5 #[.string t.text, .int .i64 s, .int .i64 p, .string who, .string others] w (BPNo w) := by
  have hRd : Hid ((isCt t.text && stOk (s : Int)) = true) := by show _ = _; rw [isCt_txt ht hlen, stOk_of hs]; rfl
  have hLp : Hid ((!t.flat) = true) := by show _ = _; rw [hfl]; rfl
  have hsz : t.text.size ≤ 4611686018427387904 := by rw [t.text_size]; omega
  have HLps := Lib.hid (spec_HasLoops t ht hlen)
  clear hfl
  go_enter Tryz.func5, Tryz.ntmps5
  go_wp2_with fail
  refine (spec_l6Ready _ _ _ hsz).mono ?_
  rintro e w' ⟨rfl, rfl⟩
  rw [hRd.out]
  go_wp2_with fail
  refine (HLps.out _).mono ?_
  rintro e w1 ⟨rfl, hb1⟩
  rw [hLp.out]
  go_wp2_with fail
  go_ret3
  exact ⟨rfl, hb1⟩
theorem spec_bp_no3 (t : Ct) (ht : t.WF) (hlen : t.len ≤ 200) (hfl : t.flat = true) (s : Nat) (hs : s < 4) (p : Int) (hp : isC p = false) (who others : ByteArray) (w : World) : Calls Tryz.prog 5 #[.string t.text, .int .i64 s, .int .i64 p, .string who, .string others] w (BPNo w) := by
  have hRd : Hid ((isCt t.text && stOk (s : Int)) = true) := by show _ = _; rw [isCt_txt ht hlen, stOk_of hs]; rfl
  have hLp : Hid ((!t.flat) = false) := by show _ = _; rw [hfl]; rfl
  have hCv := Lib.hid hp
  have hsz : t.text.size ≤ 4611686018427387904 := by rw [t.text_size]; omega
  have HLps := Lib.hid (spec_HasLoops t ht hlen)
  clear hfl hp
  go_enter Tryz.func5, Tryz.ntmps5
  go_wp2_with fail
  refine (spec_l6Ready _ _ _ hsz).mono ?_
  rintro e w' ⟨rfl, rfl⟩
  rw [hRd.out]
  go_wp2_with fail
  refine (HLps.out _).mono ?_
  rintro e w1 ⟨rfl, hb1⟩
  rw [hLp.out]
  go_wp2_with fail
  refine (spec_ConditionValid _ _).mono ?_
  rintro e w' ⟨rfl, rfl⟩
  rw [hCv.out]
  go_wp2_with fail
  go_ret3
  exact ⟨rfl, hb1⟩
theorem spec_bp_no4 (t : Ct) (ht : t.WF) (hlen : t.len ≤ 200) (hfl : t.flat = true) (s : Nat) (hs : s < 4) (p : Int) (hp : C p) (who others : ByteArray) (h1 : who ≠ angB) (h2 : who ≠ demB) (w : World) : Calls Tryz.prog 5 #[.string t.text, .int .i64 s, .int .i64 p, .string who, .string others] w (BPNo w) := by
  have hRd : Hid ((isCt t.text && stOk (s : Int)) = true) := by show _ = _; rw [isCt_txt ht hlen, stOk_of hs]; rfl
  have hLp : Hid ((!t.flat) = false) := by show _ = _; rw [hfl]; rfl
  have hCv : Hid (isC p = true) := isC_mk hp
  have hsz : t.text.size ≤ 4611686018427387904 := by rw [t.text_size]; omega
  have HLps := Lib.hid (spec_HasLoops t ht hlen)
  have e1 : ¬ who.toList = [97, 110, 103, 101, 108] := fun h => h1 (ByteArray.ext (Array.ext' (by rw [← ByteArray.toList_eq, h]; rfl)))
  have e2 : ¬ who.toList = [100, 101, 109, 111, 110] := fun h => h2 (ByteArray.ext (Array.ext' (by rw [← ByteArray.toList_eq, h]; rfl)))
  clear hfl h1 h2
  go_enter Tryz.func5, Tryz.ntmps5
  go_wp2_with fail
  refine (spec_l6Ready _ _ _ hsz).mono ?_
  rintro e w' ⟨rfl, rfl⟩
  rw [hRd.out]
  go_wp2_with fail
  refine (HLps.out _).mono ?_
  rintro e w1 ⟨rfl, hb1⟩
  rw [hLp.out]
  go_wp2_with fail
  refine (spec_ConditionValid _ _).mono ?_
  rintro e w' ⟨rfl, rfl⟩
  rw [hCv.out]
  go_wp2_with fail
  go_ret3
  exact ⟨rfl, hb1⟩
theorem spec_bp_no5 (t : Ct) (ht : t.WF) (hlen : t.len ≤ 200) (hfl : t.flat = true) (s : Nat) (hs : s < 4) (p : Int) (hp : C p) (ang : Bool) (others : ByteArray) (ho : others.size ≤ 4611686018427387904) (hd : digsOk others = false) (w : World) : Calls Tryz.prog 5 #[.string t.text, .int .i64 s, .int .i64 p, .string (whoN ang), .string others] w (BPNo w) := by
  have hRd : Hid ((isCt t.text && stOk (s : Int)) = true) := by show _ = _; rw [isCt_txt ht hlen, stOk_of hs]; rfl
  have hLp : Hid ((!t.flat) = false) := by show _ = _; rw [hfl]; rfl
  have hCv : Hid (isC p = true) := isC_mk hp
  have hDg := Lib.hid hd
  have hsz : t.text.size ≤ 4611686018427387904 := by rw [t.text_size]; omega
  have HLps := Lib.hid (spec_HasLoops t ht hlen)
  clear hfl hd
  cases ang
  all_goals
    first
    | rw [show whoN false = ⟨#[100, 101, 109, 111, 110]⟩ from rfl]
    | rw [show whoN true = ⟨#[97, 110, 103, 101, 108]⟩ from rfl]
    go_enter Tryz.func5, Tryz.ntmps5
    go_wp2_with fail
    refine (spec_l6Ready _ _ _ hsz).mono ?_
    rintro e w' ⟨rfl, rfl⟩
    rw [hRd.out]
    go_wp2_with fail
    refine (HLps.out _).mono ?_
    rintro e w1 ⟨rfl, hb1⟩
    rw [hLp.out]
    go_wp2_with fail
    refine (spec_ConditionValid _ _).mono ?_
    rintro e w' ⟨rfl, rfl⟩
    rw [hCv.out]
    go_wp2_with fail
    refine (spec_l6Digits _ ho _).mono ?_
    rintro e w' ⟨rfl, rfl⟩
    rw [hDg.out]
    go_wp2_with fail
    go_ret3
    exact ⟨rfl, hb1⟩
theorem impl_bp_no1 (c : ByteArray) (s p : Int) (who others : ByteArray) (hc : c.size ≤ 4611686018427387904) (h : isCt c = false) (w : World) : Calls Tryz.prog 6 #[.string c, .int .i64 s, .int .i64 p, .string who, .string others] w (BPNo w) := by
  go_enter Tryz.func6, Tryz.ntmps6
  go_wp2_with fail
  refine (impl_read c hc _).mono ?_
  rintro e w1 ⟨hA, hb1⟩
  obtain rfl : e = .returned (.pointer none) := by
    rcases hA with ⟨t, _, h1, rfl, h3, _⟩ | ⟨_, rfl⟩
    · rw [isCt_text h1 h3] at h; cases h
    · rfl
  clear hA h
  go_wp2_with fail
  go_ret3
  exact ⟨rfl, hb1⟩
theorem impl_bp_no1s (t : Ct) (ht : t.WF) (hlen : t.len ≤ 200) (s p : Int) (who others : ByteArray) (h : stOk s = false) (w : World) : Calls Tryz.prog 6 #[.string t.text, .int .i64 s, .int .i64 p, .string who, .string others] w (BPNo w) := by
  have HSO := Lib.hid h
  have HC1 := Lib.hid (impl_count loopW t hlen)
  have hcn := t.cnt_le (inOps loopW)
  have hnl := t.num_le
  clear h
  go_enter Tryz.func6, Tryz.ntmps6
  go_wp2_with fail
  refine (impl_read t.text (szCtP hlen) _).mono ?_
  intro e w1 hA
  obtain ⟨b, rfl, hT, hb1⟩ := read_tree ht hlen hA
  clear hA
  go_wp2_with fail
  refine (HC1.out b _ _ hT).mono ?_
  rintro e w' ⟨rfl, rfl⟩
  by_cases h0 : t.cnt (inOps loopW) = 0
  · rw [h0, show ((0 : Nat) : Int) = 0 from rfl]
    go_wp2_with fail
    refine (impl_stateOk _ _).mono ?_
    rintro e w' ⟨rfl, rfl⟩
    rw [HSO.out]
    go_wp2_with fail
    go_ret3
    exact ⟨rfl, hb1⟩
  · have hpos : 0 < (t.cnt (inOps loopW) : Int) := by omega
    go_wp2_with fail
    go_ret3
    exact ⟨rfl, hb1⟩
theorem impl_bp_no2 (t : Ct) (ht : t.WF) (hlen : t.len ≤ 200) (hfl : t.flat = false) (s p : Int) (who others : ByteArray) (w : World) : Calls Tryz.prog 6 #[.string t.text, .int .i64 s, .int .i64 p, .string who, .string others] w (BPNo w) := by
  have HC1 := Lib.hid (impl_count loopW t hlen)
  have hpos : 0 < (t.cnt (inOps loopW) : Int) := by
    have : t.cnt (inOps loopW) ≠ 0 := fun e => by rw [(cnt_loop t).1 e] at hfl; cases hfl
    omega
  clear hfl
  go_enter Tryz.func6, Tryz.ntmps6
  go_wp2_with fail
  refine (impl_read t.text (szCtP hlen) _).mono ?_
  intro e w1 hA
  obtain ⟨b, rfl, hT, hb1⟩ := read_tree ht hlen hA
  clear hA
  go_wp2_with fail
  refine (HC1.out b _ _ hT).mono ?_
  rintro e w' ⟨rfl, rfl⟩
  go_wp2_with fail
  go_ret3
  exact ⟨rfl, hb1⟩
theorem impl_bp_no3 (t : Ct) (ht : t.WF) (hlen : t.len ≤ 200) (hfl : t.flat = true) (s : Nat) (hs : s < 4) (p : Int) (hp : isC p = false) (who others : ByteArray) (w : World) : Calls Tryz.prog 6 #[.string t.text, .int .i64 s, .int .i64 p, .string who, .string others] w (BPNo w) := by
  have HC1 := Lib.hid (impl_count loopW t hlen)
  have HZ : Hid (t.cnt (inOps loopW) = 0) := (cnt_loop t).2 hfl
  have HSO : Hid (stOk (s : Int) = true) := stOk_of hs
  have hCv := Lib.hid hp
  clear hfl hp
  go_enter Tryz.func6, Tryz.ntmps6
  go_wp2_with fail
  refine (impl_read t.text (szCtP hlen) _).mono ?_
  intro e w1 hA
  obtain ⟨b, rfl, hT, hb1⟩ := read_tree ht hlen hA
  clear hA
  go_wp2_with fail
  refine (HC1.out b _ _ hT).mono ?_
  rintro e w' ⟨rfl, rfl⟩
  rw [HZ.out, show ((0 : Nat) : Int) = 0 from rfl]
  go_wp2_with fail
  refine (impl_stateOk _ _).mono ?_
  rintro e w' ⟨rfl, rfl⟩
  rw [HSO.out]
  go_wp2_with fail
  refine (impl_ConditionValid _ _).mono ?_
  rintro e w' ⟨rfl, rfl⟩
  rw [hCv.out]
  go_wp2_with fail
  go_ret3
  exact ⟨rfl, hb1⟩
theorem impl_bp_no4 (t : Ct) (ht : t.WF) (hlen : t.len ≤ 200) (hfl : t.flat = true) (s : Nat) (hs : s < 4) (p : Int) (hp : C p) (who others : ByteArray) (h1 : who ≠ angB) (h2 : who ≠ demB) (w : World) : Calls Tryz.prog 6 #[.string t.text, .int .i64 s, .int .i64 p, .string who, .string others] w (BPNo w) := by
  have HC1 := Lib.hid (impl_count loopW t hlen)
  have HZ : Hid (t.cnt (inOps loopW) = 0) := (cnt_loop t).2 hfl
  have HSO : Hid (stOk (s : Int) = true) := stOk_of hs
  have hCv : Hid (isC p = true) := isC_mk hp
  have e1 : ¬ who.toList = [97, 110, 103, 101, 108] := fun h => h1 (ByteArray.ext (Array.ext' (by rw [← ByteArray.toList_eq, h]; rfl)))
  have e2 : ¬ who.toList = [100, 101, 109, 111, 110] := fun h => h2 (ByteArray.ext (Array.ext' (by rw [← ByteArray.toList_eq, h]; rfl)))
  clear hfl h1 h2
  go_enter Tryz.func6, Tryz.ntmps6
  go_wp2_with fail
  refine (impl_read t.text (szCtP hlen) _).mono ?_
  intro e w1 hA
  obtain ⟨b, rfl, hT, hb1⟩ := read_tree ht hlen hA
  clear hA
  go_wp2_with fail
  refine (HC1.out b _ _ hT).mono ?_
  rintro e w' ⟨rfl, rfl⟩
  rw [HZ.out, show ((0 : Nat) : Int) = 0 from rfl]
  go_wp2_with fail
  refine (impl_stateOk _ _).mono ?_
  rintro e w' ⟨rfl, rfl⟩
  rw [HSO.out]
  go_wp2_with fail
  refine (impl_ConditionValid _ _).mono ?_
  rintro e w' ⟨rfl, rfl⟩
  rw [hCv.out]
  go_wp2_with fail
  go_ret3
  exact ⟨rfl, hb1⟩
theorem impl_bp_no5 (t : Ct) (ht : t.WF) (hlen : t.len ≤ 200) (hfl : t.flat = true) (s : Nat) (hs : s < 4) (p : Int) (hp : C p) (ang : Bool) (others : ByteArray) (ho : others.size ≤ 4611686018427387904) (hd : digsOk others = false) (w : World) : Calls Tryz.prog 6 #[.string t.text, .int .i64 s, .int .i64 p, .string (whoN ang), .string others] w (BPNo w) := by
  have HC1 := Lib.hid (impl_count loopW t hlen)
  have HZ : Hid (t.cnt (inOps loopW) = 0) := (cnt_loop t).2 hfl
  have HSO : Hid (stOk (s : Int) = true) := stOk_of hs
  have hCv : Hid (isC p = true) := isC_mk hp
  have HDG := Lib.hid (impl_digs others ho)
  have HDo := Lib.hid hd
  clear hfl hd
  cases ang
  all_goals
    first
    | rw [show whoN false = ⟨#[100, 101, 109, 111, 110]⟩ from rfl]
    | rw [show whoN true = ⟨#[97, 110, 103, 101, 108]⟩ from rfl]
    go_enter Tryz.func6, Tryz.ntmps6
    go_wp2_with fail
    refine (impl_read t.text (szCtP hlen) _).mono ?_
    intro e w1 hA
    obtain ⟨b, rfl, hT, hb1⟩ := read_tree ht hlen hA
    clear hA
    go_wp2_with fail
    refine (HC1.out b _ _ hT).mono ?_
    rintro e w' ⟨rfl, rfl⟩
    rw [HZ.out, show ((0 : Nat) : Int) = 0 from rfl]
    go_wp2_with fail
    refine (impl_stateOk _ _).mono ?_
    rintro e w' ⟨rfl, rfl⟩
    rw [HSO.out]
    go_wp2_with fail
    refine (impl_ConditionValid _ _).mono ?_
    rintro e w' ⟨rfl, rfl⟩
    rw [hCv.out]
    go_wp2_with fail
    refine (HDG.out _).mono ?_
    rintro e w2 ⟨⟨r, rfl, hr0⟩, hb2⟩
    have hr : r.toList.isEmpty = false := by
      rw [ByteArray.toList_eq]
      cases hq : r.data.toList with
      | nil =>
        have h1 := hr0.1 (by rw [Lib.size_eq, hq]; rfl)
        rw [HDo.out] at h1; cases h1
      | cons a l => rfl
    clear hr0
    go_wp2_with fail
    go_ret3
    exact ⟨rfl, below_step hb1 hb2⟩
/-- what a call comes to: the same of the program and of the reference -/
def BPBoth (c : ByteArray) (s p : Int) (who others : ByteArray) (R : ByteArray × Int × ByteArray) : Prop :=
  (∀ w, Calls Tryz.prog 5 #[.string c, .int .i64 s, .int .i64 p, .string who, .string others] w fun e w' => e = .returned (.tuple #[.string R.1, .int .i64 R.2.1, .string R.2.2]) ∧ Below w.heap.size w w') ∧
  (∀ w, Calls Tryz.prog 6 #[.string c, .int .i64 s, .int .i64 p, .string who, .string others] w fun e w' => e = .returned (.tuple #[.string R.1, .int .i64 R.2.1, .string R.2.2]) ∧ Below w.heap.size w w')
def BPYes (c : ByteArray) (s p : Int) (who others : ByteArray) (R : ByteArray × Int × ByteArray) : Prop :=
  ∃ (t : Ct) (n : Nat) (ang : Bool), t.WF ∧ t.len ≤ 200 ∧ t.flat = true ∧ n < 4 ∧ C p ∧ c = t.text ∧ s = (n : Int) ∧ who = whoN ang ∧
    R = ((⟨(best p ang (t.num + 1) n [t] others.data.toList []).1.toArray⟩ : ByteArray), (((best p ang (t.num + 1) n [t] others.data.toList []).2.1 : Nat) : Int), toldF (best p ang (t.num + 1) n [t] others.data.toList []).2.2)
theorem bp_cases (c : ByteArray) (s p : Int) (who others : ByteArray) (hc : c.size ≤ 4611686018427387904) (ho : others.size ≤ 4611686018427387904) :
    ∃ R : ByteArray × Int × ByteArray, BPBoth c s p who others R ∧ (R = (⟨#[]⟩, 0, ⟨#[]⟩) ∨ BPYes c s p who others R) := by
  cases k1 : isCt c
  · exact ⟨(⟨#[]⟩, 0, ⟨#[]⟩), ⟨fun w => spec_bp_no1 c s p who others hc (by rw [k1]; rfl) w, fun w => impl_bp_no1 c s p who others hc k1 w⟩, .inl rfl⟩
  · obtain ⟨t, ht, rfl, hlen⟩ := ct_ofP k1
    cases k2 : stOk s
    · exact ⟨(⟨#[]⟩, 0, ⟨#[]⟩), ⟨fun w => spec_bp_no1 t.text s p who others hc (by rw [k2, Bool.and_false]) w, fun w => impl_bp_no1s t ht hlen s p who others k2 w⟩, .inl rfl⟩
    · obtain ⟨n, hn, rfl⟩ := stOk_nat k2
      cases k3 : t.flat
      · exact ⟨(⟨#[]⟩, 0, ⟨#[]⟩), ⟨fun w => spec_bp_no2 t ht hlen k3 n hn p who others w, fun w => impl_bp_no2 t ht hlen k3 n p who others w⟩, .inl rfl⟩
      · cases k4 : isC p
        · exact ⟨(⟨#[]⟩, 0, ⟨#[]⟩), ⟨fun w => spec_bp_no3 t ht hlen k3 n hn p k4 who others w, fun w => impl_bp_no3 t ht hlen k3 n hn p k4 who others w⟩, .inl rfl⟩
        · have hp : C p := isC_get k4
          have hwho : (∃ ang, who = whoN ang) ∨ (who ≠ angB ∧ who ≠ demB) := by
            by_cases h1 : who = angB
            · exact .inl ⟨true, h1⟩
            · by_cases h2 : who = demB
              · exact .inl ⟨false, h2⟩
              · exact .inr ⟨h1, h2⟩
          rcases hwho with ⟨ang, rfl⟩ | ⟨h1, h2⟩
          · cases k5 : digsOk others
            · exact ⟨(⟨#[]⟩, 0, ⟨#[]⟩), ⟨fun w => spec_bp_no5 t ht hlen k3 n hn p hp ang others ho k5 w, fun w => impl_bp_no5 t ht hlen k3 n hn p hp ang others ho k5 w⟩, .inl rfl⟩
            · refine ⟨(⟨(best p ang (t.num + 1) n [t] others.data.toList []).1.toArray⟩, ((best p ang (t.num + 1) n [t] others.data.toList []).2.1 : Nat), toldF (best p ang (t.num + 1) n [t] others.data.toList []).2.2), ⟨fun w => ?_, fun w => ?_⟩, .inr ⟨t, n, ang, ht, hlen, k3, hn, hp, rfl, rfl, rfl, rfl⟩⟩
              · cases ang
                · exact spec_BestPlay_false t ht hlen k3 n hn p hp others ho k5 w
                · exact spec_BestPlay_true t ht hlen k3 n hn p hp others ho k5 w
              · cases ang
                · exact impl_BestPlay_false t ht hlen k3 n hn p hp others ho k5 w
                · exact impl_BestPlay_true t ht hlen k3 n hn p hp others ho k5 w
          · exact ⟨(⟨#[]⟩, 0, ⟨#[]⟩), ⟨fun w => spec_bp_no4 t ht hlen k3 n hn p hp who others h1 h2 w, fun w => impl_bp_no4 t ht hlen k3 n hn p hp who others h1 h2 w⟩, .inl rfl⟩
theorem walk_ExactBestPlay (c : ByteArray) (s p : Int) (who others : ByteArray) (w : World) (h0 : c.size ≤ maxLen) (_h1 : (Lit.int .i64 s).wf = true) (_h2 : (Lit.int .i64 p).wf = true) (h3 : who.size ≤ maxLen) (h4 : others.size ≤ maxLen) :
    Calls Tryz.prog 3 #[.string c, .int .i64 s, .int .i64 p, .string who, .string others] w fun e w' => e = .returned (.bool true) ∧ Below w.heap.size w w' := by
  unfold maxLen at h0 h3 h4
  by_cases hs : c.size ≤ 1048576
  · by_cases hq : who.size ≤ 1048576
    · by_cases hr : others.size ≤ 1048576
      · obtain ⟨⟨r1, r2, r3⟩, ⟨HS, HI⟩, -⟩ := bp_cases c s p who others (by omega) (by omega)
        have HS2 := Lib.hid HS
        have HI2 := Lib.hid HI
        clear HS HI
        go_enter Tryz.func3, Tryz.ntmps3
        go_wp2_with fail
        refine (HS2.out _).mono ?_
        rintro e w1 ⟨rfl, hb1⟩
        go_wp2_with fail
        refine (HI2.out _).mono ?_
        rintro e w2 ⟨rfl, hb2⟩
        go_wp2_with fail
        go_ret
        exact ⟨rfl, below_step hb1 hb2⟩
      · go_enter Tryz.func3, Tryz.ntmps3
        go_wp2_with fail
        go_ret
        exact ⟨rfl, Below.refl _ _⟩
    · go_enter Tryz.func3, Tryz.ntmps3
      go_wp2_with fail
      go_ret
      exact ⟨rfl, Below.refl _ _⟩
  · go_enter Tryz.func3, Tryz.ntmps3
    go_wp2_with fail
    go_ret
    exact ⟨rfl, Below.refl _ _⟩
end Go.Proofs.YtaeibhpkcikaaaaGreatDoor
