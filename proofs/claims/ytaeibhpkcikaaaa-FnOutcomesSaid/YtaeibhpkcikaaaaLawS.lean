/- The statement on choices: its walk. -/
import Derived.Test.YtaeibhpkcikaaaaLawR
import Derived.Test.YtaeibhpkcikaaaaImR
namespace Go.Proofs.Ytaeibhpkcikaaaa
set_option linter.unusedVariables false
set_option linter.unusedSimpArgs false
open Go.RowKit Go.Shelf
set_option maxRecDepth 100000
set_option maxHeartbeats 20000000

theorem impl_ChoicesAt_no (c picks : ByteArray) (s : Int) (hc : c.size ≤ 4611686018427387904) (hk : (isCt c && stOk s) = false) (w : World) :
    Calls Try.prog 13 #[.string c, .int .i64 s, .string picks] w fun e w' => e = .returned (.tuple #[.string ⟨#[]⟩, .string ⟨#[]⟩]) ∧ Below w.heap.size w w' := by
  cases k1 : isCt c
  · exact impl_ChoicesAt_no1 c picks s w hc k1
  · obtain ⟨t, ht, rfl, hlt⟩ := ct_ofP k1
    exact impl_ChoicesAt_no2 t ht hlt picks s w (by simpa [k1] using hk)
/-- is a digit among the options? -/
def hitB (l : List Nat) (d : UInt8) : Bool := l.any fun k => decB k == d
theorem hitB_take (l : List Nat) (d : UInt8) (k x : Nat) (h : l[k]? = some x) : hitB (l.take (k + 1)) d = (hitB (l.take k) d || (decB x == d)) := by
  obtain ⟨hk, rfl⟩ := List.getElem?_eq_some_iff.1 h
  unfold hitB
  rw [List.take_succ_eq_append_getElem hk, List.any_append]; simp only [List.any_cons, List.any_nil, Bool.or_false]
theorem hitB_opt {l : List Nat} (hl : ∀ k ∈ l, k < 4) (d : UInt8) : hitB l d = isOpt l d := by
  rw [Bool.eq_iff_iff, isOpt_iff]
  unfold hitB
  rw [List.any_eq_true]
  constructor
  · rintro ⟨k, hk, h⟩
    have : decB k = d := by simpa using h
    subst this
    exact ⟨k, hk, chc_decB (hl k hk)⟩
  · rintro ⟨k, hk, h⟩
    exact ⟨k, hk, by rw [decB_of h (hl k hk)]; simp⟩
theorem dig5 {k : Nat} (hk : k < 5) : (⟨#[48, 49, 50, 51, 52]⟩ : ByteArray).extract k (k + 1) = ⟨#[decB k]⟩ := by
  obtain rfl | rfl | rfl | rfl | rfl : k = 0 ∨ k = 1 ∨ k = 2 ∨ k = 3 ∨ k = 4 := by omega
  all_goals rfl
theorem optsB_cut (l : List Nat) (k x : Nat) (h : l[k]? = some x) : (optsB l).extract k (k + 1) = ⟨#[decB x]⟩ := by
  obtain ⟨hk, rfl⟩ := List.getElem?_eq_some_iff.1 h
  apply ByteArray.ext; apply Array.ext'
  rw [ByteArray.data_extract]
  simp only [optsB, List.extract_toArray, List.extract_eq_take_drop, List.toList_toArray]
  rw [show k + 1 - k = 1 by omega, List.drop_eq_getElem_cons (by simpa using hk)]; simp
theorem one_eq (a b : UInt8) : ((⟨#[a]⟩ : ByteArray).toList == [b]) = (false || (a == b)) := by
  have : (⟨#[a]⟩ : ByteArray).toList = [a] := by rw [ByteArray.toList_eq]
  rw [this]; simp
theorem toldS_ne {h : Stand} (hb : h ≠ .bad) : ((toldS h).toList == [98, 97, 100]) = false := by
  rw [ByteArray.toList_eq]
  cases h with
  | bad => exact absurd rfl hb
  | asks => rfl
  | fin f => cases f with
    | broke a => cases a <;> rfl
    | _ => rfl
theorem append_one (s : ByteArray) (d : UInt8) : (s ++ ⟨#[d]⟩).data.toList = s.data.toList ++ [d] := by simp
theorem in_ChoicesAt (a : Option Addr) (la ca : Nat) (za : List Int) (w : World) (h0 : IsRow .u8 w a la ca za) (hs : la ≤ 1048576) :
    Calls Try.prog 4 #[.slice a la ca] w fun e w' => e = .returned (.bool true) ∧ Below w.heap.size w w' := by
  go_enter Try.func4, Try.ntmps4
  go_wp2_with fail
  refine (DrawChoicesAt_at a la ca za w h0).mono ?_
  rintro e w1 ⟨⟨c, s, picks, hc, hp, rfl⟩, hb⟩
  have hc' : c.size ≤ 4611686018427387904 := by omega
  have hp' : picks.size ≤ 4611686018427387904 := by omega
  cases hk : isCt c && stOk s
  · have HI := Lib.hid (impl_ChoicesAt_no c picks s hc' hk)
    have HJ := Lib.hid (spec_ChoicesAt_no c picks s · hc' hk)
    have HP := Lib.hid (impl_PlayContract_no c picks s hc' hk)
    clear hk
    go_wp2_with fail
    refine (HI.out _).mono ?_
    rintro e w2 ⟨rfl, hb2⟩
    go_wp2_with fail
    refine (HJ.out _).mono ?_
    rintro e w' ⟨rfl, rfl⟩
    go_wp2_with fail
    refine (HP.out _).mono ?_
    rintro e w3 ⟨rfl, hb3⟩
    go_wp2_with fail
    go_ret
    exact ⟨rfl, below_step (below_step hb hb2) hb3⟩
  · have hh : isCt c = true ∧ stOk s = true := by simpa using hk
    obtain ⟨t, ht, rfl, hlt⟩ := ct_ofP hh.1
    obtain ⟨n, hn, rfl⟩ := stOk_nat hh.2
    clear hk hh
    have HI := Lib.hid (impl_ChoicesAt_yes t ht hlt n hn picks hp')
    have HJ := Lib.hid (spec_ChoicesAt_yes t ht hlt n hn picks hp')
    have HP := Lib.hid (impl_PlayContract_yes t ht hlt n hn picks hp')
    have hT := play_take picks.data.toList 200 n [t] 0
    have hA := play_asks_at (cs := picks.data.toList) (n := 200) (k := 0) hn (fit_one ht hlt) (by simp)
    have hM := fun d => play_more picks.data.toList d 200 n [t] 0
    have hKA := fun q hq => play_knows (q := q) picks.data.toList 200 n [t] 0 hq
    have HK : Hid (∀ d w, Calls Try.prog 10 #[.string t.text, .int .i64 n, .string (picks ++ ⟨#[d]⟩)] w fun e w' => e = .returned (.tuple #[.int .i64 ((t.play n (picks.data.toList ++ [d])).state : Nat), .int .i64 ((t.play n (picks.data.toList ++ [d])).used : Nat), .string (toldS (t.play n (picks.data.toList ++ [d])).how)]) ∧ Below w.heap.size w w') := fun d w => by
      have h := impl_PlayContract_yes t ht hlt n hn (picks ++ ⟨#[d]⟩) (by rw [ByteArray.size_append]; show picks.size + 1 ≤ _; omega) w
      rwa [append_one] at h
    have e0 : playA picks.data.toList 200 n [t] 0 = t.play n picks.data.toList := rfl
    have e1 : picks.data.toList.length = picks.size := rfl
    rw [e0] at hT hA
    simp only [e0] at hM hKA
    obtain ⟨hT1, hT2, hT3, hT4⟩ := hT
    rw [e1, Nat.zero_add] at hT3
    clear hT4 hT2 hT1 e0 e1
    obtain ⟨hA1, hA2, hA3, hA4, hA5⟩ := hA
    generalize hp0 : t.play n picks.data.toList = p at *
    clear hp0
    obtain ⟨m, st, td, us, how⟩ := p
    simp only at *
    clear hc hc'
    cases how with
    | asks =>
      obtain ⟨t1, us1, rfl, hnx, hne⟩ := hA5 rfl
      have hus : us = picks.size := hT3 rfl
      subst hus
      have HWH : Hid (askW ⟨m, st, t1 :: us1, picks.size, .asks⟩ = whoN t1.who) := rfl
      have HOP : Hid (askO ⟨m, st, t1 :: us1, picks.size, .asks⟩ = optsB (t1.opts st)) := rfl
      have hlt4 : ∀ x ∈ t1.opts st, x < 4 := fun x hx => opts_lt hx
      have ht1 := (hA2 t1 (by simp)).1
      have HM : Hid (∀ d : UInt8, (isOpt (t1.opts st) d = false → (t.play n (picks.data.toList ++ [d])).how = .bad) ∧ (isOpt (t1.opts st) d = true → (t.play n (picks.data.toList ++ [d])).how ≠ .bad ∧ (t.play n (picks.data.toList ++ [d])).used = picks.size + 1)) := fun d => by
        obtain ⟨t2, us2, h1, h2, h3⟩ := hM d rfl
        obtain ⟨rfl, rfl⟩ := List.cons.inj h1
        exact ⟨fun h => (h2 h).1, h3⟩
      have HAa : Hid (t1.who = true → t.knows noA = false) := fun h => by
        cases hk : t.knows noA
        · rfl
        · have := who_noA (hKA noA (by simpa using hk) t1 (by simp))
          rw [h] at this; cases this
      have HAd : Hid (t1.who = false → t.knows noD = false) := fun h => by
        cases hk : t.knows noD
        · rfl
        · have := who_noD ht1 hnx (hKA noD (by simpa using hk) t1 (by simp))
          rw [h] at this; cases this
      have HC := Lib.hid (impl_ChoosesIn t ht hlt)
      have hol := opts_le t1 st
      have HH : Hid (∀ d, hitB (t1.opts st) d = isOpt (t1.opts st) d) := hitB_opt hlt4
      have hE : (optsB (t1.opts st)).size ≠ 0 := by
        rw [optsB_size]
        intro h0; exact hne (List.length_eq_zero_iff.1 h0)
      clear hM hKA hA2 hA3 hA4 hA5 hT3 hnx hlt4 ht1 hA1 hne
      have HE2 : Hid ((optsB (t1.opts st)).toList.isEmpty = false) := by
        show _ = _
        rw [ByteArray.toList_eq]
        cases hd : (optsB (t1.opts st)).data.toList with
        | nil => exact absurd (by rw [Lib.size_eq, hd]; rfl) hE
        | cons a l => rfl
      have hsz := optsB_size (t1.opts st)
      generalize hL : t1.opts st = l at *
      clear hL
      cases hwt : t1.who
      · replace HWH : Hid (askW ⟨m, st, t1 :: us1, picks.size, .asks⟩ = ⟨#[100, 101, 109, 111, 110]⟩) := by show _ = _; rw [HWH.out, hwt]; rfl
        have HK1 : Hid (t.knows noD = false) := HAd.out hwt
        clear HAa HAd hwt
        go_wp2_with fail
        refine (HI.out _).mono ?_
        rintro e w2 ⟨rfl, hb2⟩
        rw [HWH.out, HOP.out]
        replace hb2 := below_step hb hb2
        clear hb
        go_wp2_with fail
        refine (HJ.out _).mono ?_
        rintro e w3 ⟨rfl, hb3⟩
        rw [HWH.out, HOP.out]
        replace hb3 := below_step hb2 hb3
        clear hb2
        go_wp2_with fail
        refine (HP.out _).mono ?_
        rintro e w4 ⟨rfl, hb4⟩
        rw [show toldS .asks = ⟨#[97, 115, 107, 115]⟩ from rfl]
        replace hb4 := below_step hb3 hb4
        clear hb3
        go_wp2_with fail
        go_loopw [13] (fun i wr => ∃ k : Nat, k ≤ 5 ∧ i = .int .i64 k ∧ Below w.heap.size w wr) (fun i _ => 5 - (intOf i).toNat)
        case atStart => exact ⟨0, by omega, rfl, hb4⟩
        case round =>
          obtain ⟨k, hk, rfl, hb5⟩ := hrel
          clear hb4
          by_cases hlt5 : k < 5
          · have HX := Lib.hid (dig5 hlt5)
            have ek : decide ((k : Int) < 5) = true := by rw [decide_eq_true_eq]; omega
            go_wp2_with fail
            rw [HX.out]
            go_loop [15, 16] (fun o i => ∃ j : Nat, j ≤ l.length ∧ i = .int .i64 j ∧ o = .bool (hitB (l.take j) (decB k))) (fun _ i => l.length - (intOf i).toNat)
            case atStart => exact ⟨0, by omega, rfl, rfl⟩
            case round =>
              obtain ⟨j, hj, rfl, rfl⟩ := hrel
              by_cases hjl : j < l.length
              · obtain ⟨x, hx⟩ : ∃ x, l[j]? = some x := ⟨l[j], by simp [hjl]⟩
                have HT2 := Lib.hid (hitB_take l (decB k) j x hx)
                have HC2 := Lib.hid (optsB_cut l j x hx)
                have ej : decide ((j : Int) < (l.length : Nat)) = true := by rw [decide_eq_true_eq]; omega
                clear hx
                cases hh : hitB (l.take j) (decB k)
                all_goals
                  rw [hh] at HT2
                  clear hh
                  go_wp2_with fail
                  go_round
                  case rel => exact ⟨j + 1, by omega, by go_num, by first | (rw [HC2.out, HT2.out]; exact congrArg Value.bool (one_eq (decB x) (decB k))) | (rw [HT2.out]; rfl)⟩
                  case measure => simp [intOf]; omega
              · obtain rfl : j = l.length := by omega
                have HT3 : Hid (hitB (l.take l.length) (decB k) = hitB l (decB k)) := by show _ = _; rw [List.take_length]
                rw [HT3.out, HH.out]
                clear HT3
                have HKk := Lib.hid (HK.out (decB k))
                have HMk := HM.out (decB k)
                generalize t.play n (picks.data.toList ++ [decB k]) = P at *
                obtain ⟨pm, ps, ptd, pus, phow⟩ := P
                simp only at *
                cases hio : isOpt l (decB k)
                · obtain rfl := HMk.1 hio
                  clear HMk hio
                  go_wp2_with fail
                  refine (HKk.out _).mono ?_
                  rintro e w6 ⟨rfl, hb6⟩
                  rw [show toldS .bad = ⟨#[98, 97, 100]⟩ from rfl]
                  go_wp2_with fail
                  go_roundw
                  case rel => exact ⟨k + 1, by omega, by go_num, below_step hb5 hb6⟩
                  case measure => simp [intOf]; omega
                · obtain ⟨h1, rfl⟩ := HMk.2 hio
                  have h2 := toldS_ne h1
                  clear HMk hio h1
                  generalize toldS phow = S at *
                  go_wp2_with fail
                  refine (HKk.out _).mono ?_
                  rintro e w6 ⟨rfl, hb6⟩
                  go_wp2_with fail
                  go_roundw
                  case rel => exact ⟨k + 1, by omega, by go_num, below_step hb5 hb6⟩
                  case measure => simp [intOf]; omega
          · obtain rfl : k = 5 := by omega
            have HCc := Lib.hid HC.out
            rw [HK1.out] at HCc
            go_wp2_with fail
            refine (HCc.out _).mono ?_
            rintro e w6 ⟨rfl, hb6⟩
            have he2 := HE2.out
            go_wp2_with fail
            go_ret
            exact ⟨by first | rfl | simp, below_step hb5 hb6⟩
      · replace HWH : Hid (askW ⟨m, st, t1 :: us1, picks.size, .asks⟩ = ⟨#[97, 110, 103, 101, 108]⟩) := by show _ = _; rw [HWH.out, hwt]; rfl
        have HK1 : Hid (t.knows noA = false) := HAa.out hwt
        clear HAa HAd hwt
        go_wp2_with fail
        refine (HI.out _).mono ?_
        rintro e w2 ⟨rfl, hb2⟩
        rw [HWH.out, HOP.out]
        replace hb2 := below_step hb hb2
        clear hb
        go_wp2_with fail
        refine (HJ.out _).mono ?_
        rintro e w3 ⟨rfl, hb3⟩
        rw [HWH.out, HOP.out]
        replace hb3 := below_step hb2 hb3
        clear hb2
        go_wp2_with fail
        refine (HP.out _).mono ?_
        rintro e w4 ⟨rfl, hb4⟩
        rw [show toldS .asks = ⟨#[97, 115, 107, 115]⟩ from rfl]
        replace hb4 := below_step hb3 hb4
        clear hb3
        go_wp2_with fail
        go_loopw [13] (fun i wr => ∃ k : Nat, k ≤ 5 ∧ i = .int .i64 k ∧ Below w.heap.size w wr) (fun i _ => 5 - (intOf i).toNat)
        case atStart => exact ⟨0, by omega, rfl, hb4⟩
        case round =>
          obtain ⟨k, hk, rfl, hb5⟩ := hrel
          clear hb4
          by_cases hlt5 : k < 5
          · have HX := Lib.hid (dig5 hlt5)
            have ek : decide ((k : Int) < 5) = true := by rw [decide_eq_true_eq]; omega
            go_wp2_with fail
            rw [HX.out]
            go_loop [15, 16] (fun o i => ∃ j : Nat, j ≤ l.length ∧ i = .int .i64 j ∧ o = .bool (hitB (l.take j) (decB k))) (fun _ i => l.length - (intOf i).toNat)
            case atStart => exact ⟨0, by omega, rfl, rfl⟩
            case round =>
              obtain ⟨j, hj, rfl, rfl⟩ := hrel
              by_cases hjl : j < l.length
              · obtain ⟨x, hx⟩ : ∃ x, l[j]? = some x := ⟨l[j], by simp [hjl]⟩
                have HT2 := Lib.hid (hitB_take l (decB k) j x hx)
                have HC2 := Lib.hid (optsB_cut l j x hx)
                have ej : decide ((j : Int) < (l.length : Nat)) = true := by rw [decide_eq_true_eq]; omega
                clear hx
                cases hh : hitB (l.take j) (decB k)
                all_goals
                  rw [hh] at HT2
                  clear hh
                  go_wp2_with fail
                  go_round
                  case rel => exact ⟨j + 1, by omega, by go_num, by first | (rw [HC2.out, HT2.out]; exact congrArg Value.bool (one_eq (decB x) (decB k))) | (rw [HT2.out]; rfl)⟩
                  case measure => simp [intOf]; omega
              · obtain rfl : j = l.length := by omega
                have HT3 : Hid (hitB (l.take l.length) (decB k) = hitB l (decB k)) := by show _ = _; rw [List.take_length]
                rw [HT3.out, HH.out]
                clear HT3
                have HKk := Lib.hid (HK.out (decB k))
                have HMk := HM.out (decB k)
                generalize t.play n (picks.data.toList ++ [decB k]) = P at *
                obtain ⟨pm, ps, ptd, pus, phow⟩ := P
                simp only at *
                cases hio : isOpt l (decB k)
                · obtain rfl := HMk.1 hio
                  clear HMk hio
                  go_wp2_with fail
                  refine (HKk.out _).mono ?_
                  rintro e w6 ⟨rfl, hb6⟩
                  rw [show toldS .bad = ⟨#[98, 97, 100]⟩ from rfl]
                  go_wp2_with fail
                  go_roundw
                  case rel => exact ⟨k + 1, by omega, by go_num, below_step hb5 hb6⟩
                  case measure => simp [intOf]; omega
                · obtain ⟨h1, rfl⟩ := HMk.2 hio
                  have h2 := toldS_ne h1
                  clear HMk hio h1
                  generalize toldS phow = S at *
                  go_wp2_with fail
                  refine (HKk.out _).mono ?_
                  rintro e w6 ⟨rfl, hb6⟩
                  go_wp2_with fail
                  go_roundw
                  case rel => exact ⟨k + 1, by omega, by go_num, below_step hb5 hb6⟩
                  case measure => simp [intOf]; omega
          · obtain rfl : k = 5 := by omega
            have HCc := Lib.hid HC.out
            rw [HK1.out] at HCc
            go_wp2_with fail
            refine (HCc.out _).mono ?_
            rintro e w6 ⟨rfl, hb6⟩
            have he2 := HE2.out
            go_wp2_with fail
            go_ret
            exact ⟨by first | rfl | simp, below_step hb5 hb6⟩
    | bad =>
      have HWH : Hid (askW ⟨m, st, td, us, .bad⟩ = ⟨#[]⟩) := rfl
      have HOP : Hid (askO ⟨m, st, td, us, .bad⟩ = ⟨#[]⟩) := rfl
      clear hM hKA hA1 hA2 hA3 hA4 hA5 hT3 HK
      go_wp2_with fail
      refine (HI.out _).mono ?_
      rintro e w2 ⟨rfl, hb2⟩
      rw [HWH.out, HOP.out]
      go_wp2_with fail
      refine (HJ.out _).mono ?_
      rintro e w3 ⟨rfl, hb3⟩
      rw [HWH.out, HOP.out]
      go_wp2_with fail
      refine (HP.out _).mono ?_
      rintro e w4 ⟨rfl, hb4⟩
      rw [show toldS .bad = ⟨#[98, 97, 100]⟩ from rfl]
      go_wp2_with fail
      go_ret
      exact ⟨rfl, below_step (below_step (below_step hb hb2) hb3) hb4⟩
    | fin f =>
      cases f with
      | pick => exact absurd rfl hA4
      | done =>
        have HWH : Hid (askW ⟨m, st, td, us, (.fin .done)⟩ = ⟨#[]⟩) := rfl
        have HOP : Hid (askO ⟨m, st, td, us, (.fin .done)⟩ = ⟨#[]⟩) := rfl
        clear hM hKA hA1 hA2 hA3 hA4 hA5 hT3 HK
        go_wp2_with fail
        refine (HI.out _).mono ?_
        rintro e w2 ⟨rfl, hb2⟩
        rw [HWH.out, HOP.out]
        go_wp2_with fail
        refine (HJ.out _).mono ?_
        rintro e w3 ⟨rfl, hb3⟩
        rw [HWH.out, HOP.out]
        go_wp2_with fail
        refine (HP.out _).mono ?_
        rintro e w4 ⟨rfl, hb4⟩
        rw [show toldS (.fin .done) = ⟨#[100, 111, 110, 101]⟩ from rfl]
        go_wp2_with fail
        go_ret
        exact ⟨rfl, below_step (below_step (below_step hb hb2) hb3) hb4⟩
      | long =>
        have HWH : Hid (askW ⟨m, st, td, us, (.fin .long)⟩ = ⟨#[]⟩) := rfl
        have HOP : Hid (askO ⟨m, st, td, us, (.fin .long)⟩ = ⟨#[]⟩) := rfl
        clear hM hKA hA1 hA2 hA3 hA4 hA5 hT3 HK
        go_wp2_with fail
        refine (HI.out _).mono ?_
        rintro e w2 ⟨rfl, hb2⟩
        rw [HWH.out, HOP.out]
        go_wp2_with fail
        refine (HJ.out _).mono ?_
        rintro e w3 ⟨rfl, hb3⟩
        rw [HWH.out, HOP.out]
        go_wp2_with fail
        refine (HP.out _).mono ?_
        rintro e w4 ⟨rfl, hb4⟩
        rw [show toldS (.fin .long) = ⟨#[108, 111, 110, 103]⟩ from rfl]
        go_wp2_with fail
        go_ret
        exact ⟨rfl, below_step (below_step (below_step hb hb2) hb3) hb4⟩
      | broke a =>
        cases a
        · skip
          have HWH : Hid (askW ⟨m, st, td, us, (.fin (.broke false))⟩ = ⟨#[]⟩) := rfl
          have HOP : Hid (askO ⟨m, st, td, us, (.fin (.broke false))⟩ = ⟨#[]⟩) := rfl
          clear hM hKA hA1 hA2 hA3 hA4 hA5 hT3 HK
          go_wp2_with fail
          refine (HI.out _).mono ?_
          rintro e w2 ⟨rfl, hb2⟩
          rw [HWH.out, HOP.out]
          go_wp2_with fail
          refine (HJ.out _).mono ?_
          rintro e w3 ⟨rfl, hb3⟩
          rw [HWH.out, HOP.out]
          go_wp2_with fail
          refine (HP.out _).mono ?_
          rintro e w4 ⟨rfl, hb4⟩
          rw [show toldS (.fin (.broke false)) = ⟨#[100, 101, 109, 111, 110]⟩ from rfl]
          go_wp2_with fail
          go_ret
          exact ⟨rfl, below_step (below_step (below_step hb hb2) hb3) hb4⟩
        · skip
          have HWH : Hid (askW ⟨m, st, td, us, (.fin (.broke true))⟩ = ⟨#[]⟩) := rfl
          have HOP : Hid (askO ⟨m, st, td, us, (.fin (.broke true))⟩ = ⟨#[]⟩) := rfl
          clear hM hKA hA1 hA2 hA3 hA4 hA5 hT3 HK
          go_wp2_with fail
          refine (HI.out _).mono ?_
          rintro e w2 ⟨rfl, hb2⟩
          rw [HWH.out, HOP.out]
          go_wp2_with fail
          refine (HJ.out _).mono ?_
          rintro e w3 ⟨rfl, hb3⟩
          rw [HWH.out, HOP.out]
          go_wp2_with fail
          refine (HP.out _).mono ?_
          rintro e w4 ⟨rfl, hb4⟩
          rw [show toldS (.fin (.broke true)) = ⟨#[97, 110, 103, 101, 108]⟩ from rfl]
          go_wp2_with fail
          go_ret
          exact ⟨rfl, below_step (below_step (below_step hb hb2) hb3) hb4⟩
theorem walk_ChoicesAt (a : Option Addr) (la ca : Nat) (za : List Int) (w : World) (h0 : IsRow .u8 w a la ca za) :
    Calls Try.prog 4 #[.slice a la ca] w fun e w' => e = .returned (.bool true) ∧ Below w.heap.size w w' := by
  by_cases hs : la ≤ 1048576
  · exact in_ChoicesAt a la ca za w h0 hs
  · go_enter Try.func4, Try.ntmps4
    go_wp2_with fail
    go_ret
    exact ⟨rfl, Below.refl _ _⟩
end Go.Proofs.Ytaeibhpkcikaaaa
