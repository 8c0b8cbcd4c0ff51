/- The program's PlayContract and ChoicesAt return what the reference's return: the laws' walks. -/
import Derived.Test.YtihmdfhgkfgmnaaImP5
namespace Go.Proofs.Ytihmdfhgkfgmnaa
set_option linter.unusedVariables false
set_option linter.unusedSimpArgs false
open Go.RowKit Go.Shelf
set_option maxRecDepth 100000
set_option maxHeartbeats 10000000

theorem ct_ofP {c : ByteArray} (h : isCt c = true) : ∃ t : Ct, t.WF ∧ c = t.text ∧ t.len ≤ 200 := by
  obtain ⟨t, h1, h2, h3⟩ := isCt_iff.1 h
  exact ⟨t, h1, h2, by rw [← t.text_size, ← h2]; exact h3⟩
theorem text_injP {t u : Ct} (ht : t.WF) (hu : u.WF) (h : t.text = u.text) : t = u := (lies_text t).uniq (by rw [h]; exact lies_text u) ht hu
theorem szCtP {t : Ct} (h : t.len ≤ 200) : t.text.size ≤ 4611686018427387904 := by rw [t.text_size]; omega
theorem impl_stateOk (s : Int) (w : World) : Calls Try.prog 55 #[.int .i64 s] w fun e w' => e = .returned (.bool (stOk s)) ∧ w = w' := by
  have HS : Hid (stOk s = (decide (0 ≤ s) && decide (s < 4))) := rfl
  by_cases h1 : 0 ≤ s
  · have e1 : decide (0 ≤ s) = true := by simpa using h1
    by_cases h2 : s < 4
    · have e2 : decide (s < 4) = true := by simpa using h2
      have e : Hid (stOk s = true) := by show _ = _; rw [HS.out, e1, e2]; rfl
      go_enter Try.func55, Try.ntmps55
      go_wp2_with fail
      go_ret
      rw [e.out]; exact ⟨rfl, rfl⟩
    · have e2 : decide (s < 4) = false := by simpa using h2
      have e : Hid (stOk s = false) := by show _ = _; rw [HS.out, e1, e2]; rfl
      go_enter Try.func55, Try.ntmps55
      go_wp2_with fail
      go_ret
      rw [e.out]; exact ⟨rfl, rfl⟩
  · have e1 : decide (0 ≤ s) = false := by simpa using h1
    have e : Hid (stOk s = false) := by show _ = _; rw [HS.out, e1]; rfl
    go_enter Try.func55, Try.ntmps55
    go_wp2_with fail
    go_ret
    rw [e.out]; exact ⟨rfl, rfl⟩
theorem impl_PlayContract_no1 (c picks : ByteArray) (s : Int) (w : World) (hc : c.size ≤ 4611686018427387904) (h : isCt c = false) :
    Calls Try.prog 17 #[.string c, .int .i64 s, .string picks] w fun e w' => e = .returned (.tuple #[.int .i64 0, .int .i64 0, .string ⟨#[]⟩]) ∧ Below w.heap.size w w' := by
  go_enter Try.func17, Try.ntmps17
  go_wp2_with fail
  refine (impl_read c hc _).mono ?_
  rintro e w1 ⟨hA, hb1⟩
  obtain rfl : e = .returned (.pointer none) := by
    rcases hA with ⟨t, _, h1, rfl, h3, _⟩ | ⟨_, rfl⟩
    · rw [isCt_text h1 h3] at h; cases h
    · rfl
  clear hA h
  go_wp2_with fail
  go_ret3
  exact ⟨rfl, hb1⟩
theorem impl_PlayContract_no2 (t : Ct) (ht : t.WF) (hlen : t.len ≤ 200) (picks : ByteArray) (s : Int) (w : World) (h : stOk s = false) :
    Calls Try.prog 17 #[.string t.text, .int .i64 s, .string picks] w fun e w' => e = .returned (.tuple #[.int .i64 0, .int .i64 0, .string ⟨#[]⟩]) ∧ Below w.heap.size w w' := by
  have H := Lib.hid h
  clear h
  go_enter Try.func17, Try.ntmps17
  go_wp2_with fail
  refine (impl_read t.text (szCtP hlen) _).mono ?_
  rintro e w1 ⟨hA, hb1⟩
  obtain ⟨b, rfl⟩ : ∃ b, e = .returned (.pointer (some ⟨b, 0, none⟩)) := by
    rcases hA with ⟨_, b, _, _, _, rfl, _⟩ | ⟨h, _⟩
    · exact ⟨b, rfl⟩
    · rw [isCt_text ht hlen] at h; cases h
  clear hA
  go_wp2_with fail
  refine (impl_stateOk _ _).mono ?_
  rintro e w' ⟨rfl, rfl⟩
  rw [H.out]
  go_wp2_with fail
  go_ret3
  exact ⟨rfl, hb1⟩
/-- a contract that is read lies in blocks of its own -/
theorem read_tree {t : Ct} (ht : t.WF) (hlen : t.len ≤ 200) {w : World} {e : Ending} {w1 : World} (hA : RdCt t.text w e w1) : ∃ b, e = .returned (.pointer (some ⟨b, 0, none⟩)) ∧ Tree w1 (fun q => q < w1.heap.size) t b ∧ Below w.heap.size w w1 := by
  obtain ⟨hA, hb⟩ := hA
  rcases hA with ⟨t', b, h1, h2, _, rfl, h5⟩ | ⟨h, _⟩
  · obtain rfl := text_injP ht h1 h2
    exact ⟨b, rfl, h5.weaken (fun k _ hk => hk), hb⟩
  · rw [isCt_text ht hlen] at h; cases h
theorem impl_PlayContract_yes (t : Ct) (ht : t.WF) (hlen : t.len ≤ 200) (s : Nat) (hs : s < 4) (picks : ByteArray) (hp : picks.size ≤ 4611686018427387904) (w : World) :
    Calls Try.prog 17 #[.string t.text, .int .i64 s, .string picks] w fun e w' => e = .returned (.tuple #[.int .i64 ((t.play s picks.data.toList).state : Nat), .int .i64 ((t.play s picks.data.toList).used : Nat), .string (toldS (t.play s picks.data.toList).how)]) ∧ Below w.heap.size w w' := by
  have H : Hid (stOk (s : Int) = true) := stOk_of hs
  go_enter Try.func17, Try.ntmps17
  go_wp2_with fail
  refine (impl_read t.text (szCtP hlen) _).mono ?_
  intro e w1 hA
  obtain ⟨b, rfl, hT, hb1⟩ := read_tree ht hlen hA
  clear hA
  go_wp2_with fail
  refine (impl_stateOk _ _).mono ?_
  rintro e w' ⟨rfl, rfl⟩
  rw [H.out]
  go_wp2_with fail
  refine (impl_play _ t ht hlen b s hs picks hp _ hT (fun q hq => hq)).mono ?_
  rintro e w2 ⟨hb2, g, cap, rfl, hP⟩
  clear hP hT
  go_wp2_with (refine wp_store_BlkNew rfl _ _ _ rfl rfl rfl pl_i rfl (by simp [Value.oneCell']) ?_)
  go_ret3
  exact ⟨rfl, below_new (below_step hb1 hb2) _⟩
theorem walk_ExactPlayContract (c : ByteArray) (s : Int) (picks : ByteArray) (w : World) (h0 : c.size ≤ maxLen) (_h1 : (Lit.int .i64 s).wf = true) (h2 : picks.size ≤ maxLen) :
    Calls Try.prog 6 #[.string c, .int .i64 s, .string picks] w fun e w' => e = .returned (.bool true) ∧ Below w.heap.size w w' := by
  unfold maxLen at h0 h2

  by_cases hs : c.size ≤ 1048576
  · by_cases hq : picks.size ≤ 1048576
    · have hc : c.size ≤ 4611686018427387904 := by omega
      have hp : picks.size ≤ 4611686018427387904 := by omega
      cases hk : isCt c && stOk s
      · have hi : Calls Try.prog 17 #[.string c, .int .i64 s, .string picks] w fun e w' => e = .returned (.tuple #[.int .i64 0, .int .i64 0, .string ⟨#[]⟩]) ∧ Below w.heap.size w w' := by
          cases k1 : isCt c
          · exact impl_PlayContract_no1 c picks s w hc k1
          · obtain ⟨t, ht, rfl, hlt⟩ := ct_ofP k1
            exact impl_PlayContract_no2 t ht hlt picks s w (by simpa [k1] using hk)
        go_enter Try.func6, Try.ntmps6
        go_wp2_with fail
        refine (spec_PlayContract_no _ _ _ _ hc hk).mono ?_
        rintro e w' ⟨rfl, rfl⟩
        go_wp2_with fail
        refine (hi).mono ?_
        rintro e w' ⟨rfl, hb⟩
        go_wp2_with fail
        go_ret
        exact ⟨rfl, hb⟩
      · have hh : isCt c = true ∧ stOk s = true := by simpa using hk
        obtain ⟨t, ht, rfl, hlt⟩ := ct_ofP hh.1
        obtain ⟨n, hn, rfl⟩ := stOk_nat hh.2
        clear hk hh
        have hi := impl_PlayContract_yes t ht hlt n hn picks hp
        have hj := spec_PlayContract_yes t ht hlt n hn picks hp
        have HI := Lib.hid hi
        have HJ := Lib.hid hj
        clear hi hj
        go_enter Try.func6, Try.ntmps6
        go_wp2_with fail
        refine (HJ.out _).mono ?_
        rintro e w1 ⟨rfl, hb1⟩
        go_wp2_with fail
        refine (HI.out _).mono ?_
        rintro e w2 ⟨rfl, hb2⟩
        go_wp2_with fail
        go_ret
        exact ⟨rfl, below_step hb1 hb2⟩
    · go_enter Try.func6, Try.ntmps6
      go_wp2_with fail
      go_ret
      exact ⟨rfl, Below.refl _ _⟩
  · go_enter Try.func6, Try.ntmps6
    go_wp2_with fail
    go_ret
    exact ⟨rfl, Below.refl _ _⟩
theorem optsB_take (l : List Nat) (k : Nat) (x : Nat) (h : l[k]? = some x) : optsB (l.take (k + 1)) = optsB (l.take k) ++ ⟨#[decB x]⟩ := by
  obtain ⟨hk, rfl⟩ := List.getElem?_eq_some_iff.1 h
  apply ByteArray.ext; apply Array.ext'
  rw [List.take_succ_eq_append_getElem hk]
  generalize l.take k = A
  generalize l[k] = x
  simp [optsB, ByteArray.data_append]
theorem impl_ChoicesAt_no1 (c picks : ByteArray) (s : Int) (w : World) (hc : c.size ≤ 4611686018427387904) (h : isCt c = false) :
    Calls Try.prog 19 #[.string c, .int .i64 s, .string picks] w fun e w' => e = .returned (.tuple #[.string ⟨#[]⟩, .string ⟨#[]⟩]) ∧ Below w.heap.size w w' := by
  go_enter Try.func19, Try.ntmps19
  go_wp2_with fail
  refine (impl_read c hc _).mono ?_
  rintro e w1 ⟨hA, hb1⟩
  obtain rfl : e = .returned (.pointer none) := by
    rcases hA with ⟨t, _, h1, rfl, h3, _⟩ | ⟨_, rfl⟩
    · rw [isCt_text h1 h3] at h; cases h
    · rfl
  clear hA h
  go_wp2_with fail
  go_ret2
  exact ⟨rfl, hb1⟩
theorem impl_ChoicesAt_no2 (t : Ct) (ht : t.WF) (hlen : t.len ≤ 200) (picks : ByteArray) (s : Int) (w : World) (h : stOk s = false) :
    Calls Try.prog 19 #[.string t.text, .int .i64 s, .string picks] w fun e w' => e = .returned (.tuple #[.string ⟨#[]⟩, .string ⟨#[]⟩]) ∧ Below w.heap.size w w' := by
  have H := Lib.hid h
  clear h
  go_enter Try.func19, Try.ntmps19
  go_wp2_with fail
  refine (impl_read t.text (szCtP hlen) _).mono ?_
  rintro e w1 ⟨hA, hb1⟩
  obtain ⟨b, rfl⟩ : ∃ b, e = .returned (.pointer (some ⟨b, 0, none⟩)) := by
    rcases hA with ⟨_, b, _, _, _, rfl, _⟩ | ⟨h, _⟩
    · exact ⟨b, rfl⟩
    · rw [isCt_text ht hlen] at h; cases h
  clear hA
  go_wp2_with fail
  refine (impl_stateOk _ _).mono ?_
  rintro e w' ⟨rfl, rfl⟩
  rw [H.out]
  go_wp2_with fail
  go_ret2
  exact ⟨rfl, hb1⟩
theorem impl_ChoicesAt_yes (t : Ct) (ht : t.WF) (hlen : t.len ≤ 200) (s : Nat) (hs : s < 4) (picks : ByteArray) (hp : picks.size ≤ 4611686018427387904) (w : World) :
    Calls Try.prog 19 #[.string t.text, .int .i64 s, .string picks] w fun e w' => e = .returned (.tuple #[.string (askW (t.play s picks.data.toList)), .string (askO (t.play s picks.data.toList))]) ∧ Below w.heap.size w w' := by
  obtain ⟨fs, hu⟩ := pl_u
  have H : Hid (stOk (s : Int) = true) := stOk_of hs
  have HA := play_asks_at (cs := picks.data.toList) (n := 200) (k := 0) hs (fit_one ht hlen) (by simp)
  have HL := Lib.hid (fun (S : Nat → Prop) (b : Nat) (w : World) => impl_play S t ht hlen b s hs picks hp w)
  have HE : ∃ p, t.play s picks.data.toList = p := ⟨_, rfl⟩
  obtain ⟨p, hpe⟩ := HE
  have HA2 : p.state < 4 ∧ FitC p.todo ∧ p.todo.length ≤ 1000 ∧ p.how ≠ .fin .pick ∧ (p.how = .asks → ∃ t us, p.todo = t :: us ∧ t.next p.state = .pick ∧ t.opts p.state ≠ []) := by rw [← hpe]; exact HA
  rw [hpe] at HL ⊢
  clear HA hpe
  go_enter Try.func19, Try.ntmps19
  go_wp2_with fail
  refine (impl_read t.text (szCtP hlen) _).mono ?_
  intro e w1 hA
  obtain ⟨b, rfl, hT, hb1⟩ := read_tree ht hlen hA
  clear hA
  go_wp2_with fail
  refine (impl_stateOk _ _).mono ?_
  rintro e w' ⟨rfl, rfl⟩
  rw [H.out]
  go_wp2_with fail
  refine (HL.out _ b _ hT (fun q hq => hq)).mono ?_
  rintro e w2 ⟨hb2, g, cap, rfl, hP⟩
  clear HL hT
  replace hb2 := below_step hb1 hb2
  obtain ⟨n0, ps, td, us0, st⟩ := p
  simp only at *
  obtain ⟨hs4, hfit, hlen4, hnp, hask⟩ := HA2
  have HB := Blk.new w2 69 #[.int .i64 ps, .slice (some ⟨g, 0, none⟩) td.length cap, .int .i64 ((200 - n0 : Nat))]
  have hP1 := hP.grown (below_new (Below.refl _ _) (Obj.cells #[.int .i64 ps, .slice (some ⟨g, 0, none⟩) td.length cap, .int .i64 ((200 - n0 : Nat))] 69))
  have hb3 := below_new hb2 (Obj.cells #[.int .i64 ps, .slice (some ⟨g, 0, none⟩) td.length cap, .int .i64 ((200 - n0 : Nat))] 69)
  cases st with
  | asks =>
    obtain ⟨t1, us1, rfl, hnx, hne⟩ := hask rfl
    rw [show toldS .asks = ⟨#[97, 115, 107, 115]⟩ from rfl]
    have hf1 := hfit t1 (by simp)
    simp only [List.length_cons] at *
    have HWH : Hid (askW ⟨n0, ps, t1 :: us1, us0, .asks⟩ = whoN t1.who) := rfl
    have HOP : Hid (askO ⟨n0, ps, t1 :: us1, us0, .asks⟩ = optsB (t1.opts ps)) := rfl
    have HCH := Lib.hid (impl_choices _ t1 hf1.1 us1 ps hs4 hnx (200 - n0) g cap _ hP1 (by omega))
    go_wp2_with (first
      | (refine wp_store_BlkNew rfl _ _ _ rfl rfl rfl pl_i rfl (by simp [Value.oneCell']) ?_)
      | (refine wp_load_Blk rfl _ _ rfl w2.heap.size rfl HB hu rfl pl_i ?_))
    refine HCH.out.mono ?_
    rintro e w4 ⟨g4, cap4, rfl, hI4, hb4, -⟩
    have hb5 := below_step hb3 hb4
    have hol := opts_le t1 ps
    have hlt4 : Hid (∀ x ∈ t1.opts ps, x < 4) := fun x hx => opts_lt hx
    clear HCH hP1 hb3 hb4 HB hP hb2 hb1 hne
    generalize hL : t1.opts ps = l at *
    clear hL
    go_wp2_with fail
    rw [HWH.out]
    go_loop [13, 39] (fun o i => ∃ k : Nat, k ≤ l.length ∧ i = .int .i64 k ∧ o = .string (optsB (l.take k))) (fun _ i => l.length - (intOf i).toNat)
    case atStart => exact ⟨0, by omega, rfl, rfl⟩
    case round =>
      obtain ⟨k, hk, rfl, rfl⟩ := hrel
      by_cases hlt : k < l.length
      · have hki : (k : Int) < (l.length : Nat) := by omega
        obtain ⟨x, hx⟩ : ∃ x, l[k]? = some x := ⟨l[k], by simp [hlt]⟩
        have hc := hI4.lies k x hx
        have HX := Lib.hid (optsB_take l k x hx)
        have hx4 : x < 4 := hlt4.out x (List.mem_of_getElem? hx)
        have hsz := optsB_size (l.take k)
        have hsl : (l.take k).length ≤ 4 := by have := List.length_take_le k l; omega
        clear hx
        generalize optsB (l.take k) = A at *
        have hA4 : A.size ≤ 4 := by omega
        clear hsz hsl
        obtain rfl | rfl | rfl | rfl : x = 0 ∨ x = 1 ∨ x = 2 ∨ x = 3 := by omega
        all_goals
          first
          | rw [show ((0 : Nat) : Int) = 0 from rfl] at hc
          | rw [show ((1 : Nat) : Int) = 1 from rfl] at hc
          | rw [show ((2 : Nat) : Int) = 2 from rfl] at hc
          | rw [show ((3 : Nat) : Int) = 3 from rfl] at hc
          have hU0 : Utf8.encode 48 = ⟨#[48]⟩ := by rfl
          have hU1 : Utf8.encode 49 = ⟨#[49]⟩ := by rfl
          have hU2 : Utf8.encode 50 = ⟨#[50]⟩ := by rfl
          have hU3 : Utf8.encode 51 = ⟨#[51]⟩ := by rfl
          go_wp2_with fail
          go_round
          case rel => exact ⟨k + 1, by omega, by go_num, by rw [HX.out]; rfl⟩
          case measure => simp [intOf]; omega
      · obtain rfl : k = l.length := by omega
        have HT : Hid (optsB (l.take l.length) = optsB l) := by show _ = _; rw [List.take_length]
        rw [HT.out]
        go_wp2_with fail
        go_ret2
        rw [HOP.out]
        exact ⟨rfl, hb5⟩
  | bad =>
    clear hask
    have HWH : Hid (askW ⟨n0, ps, td, us0, .bad⟩ = ⟨#[]⟩) := rfl
    have HOP : Hid (askO ⟨n0, ps, td, us0, .bad⟩ = ⟨#[]⟩) := rfl
    rw [show toldS .bad = ⟨#[98, 97, 100]⟩ from rfl]
    go_wp2_with (refine wp_store_BlkNew rfl _ _ _ rfl rfl rfl pl_i rfl (by simp [Value.oneCell']) ?_)
    go_ret2
    rw [HWH.out, HOP.out]
    exact ⟨rfl, hb3⟩
  | fin f =>
    clear hask
    cases f with
    | pick => exact absurd rfl hnp
    | done =>
      have HWH : Hid (askW ⟨n0, ps, td, us0, (.fin .done)⟩ = ⟨#[]⟩) := rfl
      have HOP : Hid (askO ⟨n0, ps, td, us0, (.fin .done)⟩ = ⟨#[]⟩) := rfl
      rw [show toldS (.fin .done) = ⟨#[100, 111, 110, 101]⟩ from rfl]
      go_wp2_with (refine wp_store_BlkNew rfl _ _ _ rfl rfl rfl pl_i rfl (by simp [Value.oneCell']) ?_)
      go_ret2
      rw [HWH.out, HOP.out]
      exact ⟨rfl, hb3⟩
    | long =>
      have HWH : Hid (askW ⟨n0, ps, td, us0, (.fin .long)⟩ = ⟨#[]⟩) := rfl
      have HOP : Hid (askO ⟨n0, ps, td, us0, (.fin .long)⟩ = ⟨#[]⟩) := rfl
      rw [show toldS (.fin .long) = ⟨#[108, 111, 110, 103]⟩ from rfl]
      go_wp2_with (refine wp_store_BlkNew rfl _ _ _ rfl rfl rfl pl_i rfl (by simp [Value.oneCell']) ?_)
      go_ret2
      rw [HWH.out, HOP.out]
      exact ⟨rfl, hb3⟩
    | broke a =>
      cases a
      · skip
        have HWH : Hid (askW ⟨n0, ps, td, us0, (.fin (.broke false))⟩ = ⟨#[]⟩) := rfl
        have HOP : Hid (askO ⟨n0, ps, td, us0, (.fin (.broke false))⟩ = ⟨#[]⟩) := rfl
        rw [show toldS (.fin (.broke false)) = ⟨#[100, 101, 109, 111, 110]⟩ from rfl]
        go_wp2_with (refine wp_store_BlkNew rfl _ _ _ rfl rfl rfl pl_i rfl (by simp [Value.oneCell']) ?_)
        go_ret2
        rw [HWH.out, HOP.out]
        exact ⟨rfl, hb3⟩
      · skip
        have HWH : Hid (askW ⟨n0, ps, td, us0, (.fin (.broke true))⟩ = ⟨#[]⟩) := rfl
        have HOP : Hid (askO ⟨n0, ps, td, us0, (.fin (.broke true))⟩ = ⟨#[]⟩) := rfl
        rw [show toldS (.fin (.broke true)) = ⟨#[97, 110, 103, 101, 108]⟩ from rfl]
        go_wp2_with (refine wp_store_BlkNew rfl _ _ _ rfl rfl rfl pl_i rfl (by simp [Value.oneCell']) ?_)
        go_ret2
        rw [HWH.out, HOP.out]
        exact ⟨rfl, hb3⟩
theorem walk_ExactChoicesAt (c : ByteArray) (s : Int) (picks : ByteArray) (w : World) (h0 : c.size ≤ maxLen) (_h1 : (Lit.int .i64 s).wf = true) (h2 : picks.size ≤ maxLen) :
    Calls Try.prog 7 #[.string c, .int .i64 s, .string picks] w fun e w' => e = .returned (.bool true) ∧ Below w.heap.size w w' := by
  unfold maxLen at h0 h2

  by_cases hs : c.size ≤ 1048576
  · by_cases hq : picks.size ≤ 1048576
    · have hc : c.size ≤ 4611686018427387904 := by omega
      have hp : picks.size ≤ 4611686018427387904 := by omega
      cases hk : isCt c && stOk s
      · have hi : Calls Try.prog 19 #[.string c, .int .i64 s, .string picks] w fun e w' => e = .returned (.tuple #[.string ⟨#[]⟩, .string ⟨#[]⟩]) ∧ Below w.heap.size w w' := by
          cases k1 : isCt c
          · exact impl_ChoicesAt_no1 c picks s w hc k1
          · obtain ⟨t, ht, rfl, hlt⟩ := ct_ofP k1
            exact impl_ChoicesAt_no2 t ht hlt picks s w (by simpa [k1] using hk)
        go_enter Try.func7, Try.ntmps7
        go_wp2_with fail
        refine (spec_ChoicesAt_no _ _ _ _ hc hk).mono ?_
        rintro e w' ⟨rfl, rfl⟩
        go_wp2_with fail
        refine (hi).mono ?_
        rintro e w' ⟨rfl, hb⟩
        go_wp2_with fail
        go_ret
        exact ⟨rfl, hb⟩
      · have hh : isCt c = true ∧ stOk s = true := by simpa using hk
        obtain ⟨t, ht, rfl, hlt⟩ := ct_ofP hh.1
        obtain ⟨n, hn, rfl⟩ := stOk_nat hh.2
        clear hk hh
        have hi := impl_ChoicesAt_yes t ht hlt n hn picks hp
        have hj := spec_ChoicesAt_yes t ht hlt n hn picks hp
        have HI := Lib.hid hi
        have HJ := Lib.hid hj
        clear hi hj
        go_enter Try.func7, Try.ntmps7
        go_wp2_with fail
        refine (HJ.out _).mono ?_
        rintro e w1 ⟨rfl, hb1⟩
        go_wp2_with fail
        refine (HI.out _).mono ?_
        rintro e w2 ⟨rfl, hb2⟩
        go_wp2_with fail
        go_ret
        exact ⟨rfl, below_step hb1 hb2⟩
    · go_enter Try.func7, Try.ntmps7
      go_wp2_with fail
      go_ret
      exact ⟨rfl, Below.refl _ _⟩
  · go_enter Try.func7, Try.ntmps7
    go_wp2_with fail
    go_ret
    exact ⟨rfl, Below.refl _ _⟩
end Go.Proofs.Ytihmdfhgkfgmnaa
