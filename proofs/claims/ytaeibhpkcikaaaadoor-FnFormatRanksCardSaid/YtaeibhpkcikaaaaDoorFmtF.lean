/- The text of numbers: its spaces and its end: the statement's walk. -/
import Derived.Test.YtaeibhpkcikaaaaDoorDrawD
namespace Go.Proofs.YtaeibhpkcikaaaaDoor
set_option linter.unusedVariables false
set_option linter.unusedSimpArgs false
open Go.RowKit Go.Shelf
set_option maxRecDepth 100000
set_option maxHeartbeats 4000000

/-- how many spaces -/
def spc (l : List UInt8) : Nat := l.countP (· == 32)
theorem spc_append (l m : List UInt8) : spc (l ++ m) = spc l + spc m := List.countP_append
theorem dec_no (u : Nat) : ∀ b ∈ Lib.decDigits u, b ≠ 32 := by
  induction u using Nat.strongRecOn with
  | _ u ih =>
    have key : ∀ d, d < 10 → UInt8.ofNat (48 + d) ≠ 32 := fun d hd h => by
      have h2 := congrArg UInt8.toNat h
      rw [UInt8.toNat_ofNat'] at h2
      have h3 : (32 : UInt8).toNat = 32 := rfl
      rw [h3] at h2; omega
    intro b hb
    by_cases h : u < 10
    · rw [decDigits_small h] at hb
      simp only [List.mem_singleton] at hb
      subst hb; exact key u h
    · rw [decDigits_big h, List.mem_append] at hb
      rcases hb with hb | hb
      · exact ih (u / 10) (by omega) b hb
      · simp only [List.mem_singleton] at hb
        subst hb; exact key _ (Nat.mod_lt _ (by decide))
theorem spc_next (s : ByteArray) (k : Nat) (hk : k < s.size) : spc (s.data.toList.take (k + 1)) = spc (s.data.toList.take k) + (if (((bt s k).toNat : Int) == 32) = true then 1 else 0) := by
  have hk' : k < s.data.toList.length := by rw [← Lib.size_eq]; exact hk
  rw [List.take_succ_eq_append_getElem hk', spc_append]
  congr 1
  unfold spc
  rw [List.countP_cons, List.countP_nil]
  have e : bt s k = s.data.toList[k] := by unfold bt; rw [List.getD_eq_getElem?_getD, List.getElem?_eq_getElem hk']; rfl
  rw [e]
  generalize s.data.toList[k] = b
  have h2 : ((b == 32) = true) = ((((b.toNat : Int) == 32)) = true) := by
    rw [beq_iff_eq, beq_iff_eq]
    apply propext
    constructor
    · intro h; subst h; rfl
    · intro h
      apply UInt8.toNat_inj.1
      have : (32 : UInt8).toNat = 32 := rfl
      rw [this]; omega
  simp only [h2, Nat.zero_add]
theorem spc_none {l : List UInt8} (h : ∀ b ∈ l, b ≠ 32) : spc l = 0 := by
  unfold spc
  rw [List.countP_eq_zero]
  intro b hb
  have := h b hb
  simpa using this
theorem spc_itoa (n : Int) : spc (Lib.itoa n) = 0 := by
  refine spc_none fun b hb => ?_
  unfold Lib.itoa at hb
  split at hb
  · simp only [List.mem_cons] at hb
    rcases hb with rfl | hb
    · decide
    · exact dec_no _ b hb
  · exact dec_no _ b hb
theorem spc_tail (r : List Int) : spc (Lib.joinTail [32] (r.map Lib.itoa)) = r.length := by
  induction r with
  | nil => rfl
  | cons x r ih =>
    have e : Lib.joinTail [32] ((x :: r).map Lib.itoa) = [32] ++ Lib.itoa x ++ Lib.joinTail [32] (r.map Lib.itoa) := rfl
    rw [e, spc_append, spc_append, ih, spc_itoa]
    have : spc [32] = 1 := rfl
    rw [this, List.length_cons]; omega
theorem spc_fmt (x : Int) (r : List Int) : spc (fmtL (x :: r)) = r.length := by
  rw [fmtL_cons, spc_append, spc_itoa, spc_tail]; omega
theorem fmtL_two (x y : Int) (r : List Int) : fmtL (x :: y :: r) = (Lib.itoa x ++ [32]) ++ fmtL (y :: r) := by
  rw [fmtL_cons, fmtL_cons]
  show Lib.itoa x ++ ([32] ++ Lib.itoa y ++ Lib.joinTail [32] (r.map Lib.itoa)) = _
  simp [List.append_assoc]
theorem cut_end (l m : List UInt8) : ((⟨(l ++ m).toArray⟩ : ByteArray).extract ((⟨(l ++ m).toArray⟩ : ByteArray).size - (⟨m.toArray⟩ : ByteArray).size) (⟨(l ++ m).toArray⟩ : ByteArray).size) = ⟨m.toArray⟩ := by
  rw [Lib.extract_eq]
  have e1 : (⟨(l ++ m).toArray⟩ : ByteArray).size = l.length + m.length := by show (l ++ m).toArray.size = _; simp
  have e2 : (⟨m.toArray⟩ : ByteArray).size = m.length := by show m.toArray.size = _; simp
  rw [e1, e2]
  have e3 : (⟨(l ++ m).toArray⟩ : ByteArray).data.toList = l ++ m := rfl
  rw [e3, show l.length + m.length - m.length = l.length by omega, List.drop_left, List.take_of_length_le (by omega)]
theorem Ints.tail {w : World} {x : Addr} {len : Nat} {y : Int} {r : List Int} (h : Ints w (some x) len (y :: r)) : Ints w (some (x.add 1)) (len - 1) r := by
  obtain ⟨hl, hx⟩ := h
  simp only [List.length_cons] at hl
  refine ⟨by omega, ?_⟩
  rcases hx with h0 | ⟨z, hz, h1, h2⟩
  · omega
  · cases hz
    refine .inr ⟨x.add 1, rfl, by simpa [Addr.add] using h1, fun j v hj => ?_⟩
    have := h2 (j + 1) v (by simpa using hj)
    have e : (x.add 1).add j = x.add (j + 1) := by
      unfold Addr.add
      by_cases hj0 : j = 0
      · subst hj0; simp
      · simp [hj0]; omega
    rw [e]; exact this
theorem impl_fmt (xs : List Int) (a : Option Addr) (len cap : Nat) (w : World) (h : Ints w a len xs) (hlen : len ≤ 4) (hI : I64 xs) (htab : Pow10 w) :
    Calls Tryd.prog 7 #[.slice a len cap] w fun e w' => e = .returned (.string (fmtB xs)) ∧ Below w.heap.size w w' := impl_FormatRanks a len cap xs w h (by omega) hI htab
theorem walk_FormatRanks (a : Option Addr) (la ca : Nat) (za : List Int) (w : World) (h0 : IsRow .u8 w a la ca za) (htab : Pow10 w) :
    Calls Tryd.prog 4 #[.slice a la ca] w fun e w' => e = .returned (.bool true) ∧ Below w.heap.size w w' := by
  by_cases hs : la ≤ 1048576
  · have HTab := Lib.hid (Lib.tabBelow_of_tabIs htab)
    clear htab
    go_enter Tryd.func4, Tryd.ntmps4
    go_wp2_with fail
    refine (DrawFormatRanks_at a la ca za w h0).mono ?_
    rintro e w1 ⟨⟨xs, g, cap, hx4, hcap, hI, rfl, hin⟩, hb1⟩
    go_wp2_with fail
    refine (impl_FormatRanks _ _ cap xs _ hin (by omega) hI (HTab.out _ hb1)).mono ?_
    rintro e w2 ⟨rfl, hb2⟩
    have hin2 := hin.keep hb2
    replace hb2 := hb1.trans (hb2.mono hb1.size)
    clear hb1 hin
    go_wp2_with fail
    refine (spec_FormatRanks _ _ cap xs _ hin2 (by omega) hI).mono ?_
    rintro e w3 ⟨rfl, hb3⟩
    have hin3 := hin2.keep hb3
    replace hb3 := hb2.trans (hb3.mono hb2.size)
    clear hb2 hin2
    have hle := fmtL_le xs hI
    have HS : Hid (∀ k, k < (fmtB xs).size → spc ((fmtB xs).data.toList.take (k + 1)) = spc ((fmtB xs).data.toList.take k) + (if (((bt (fmtB xs) k).toNat : Int) == 32) = true then 1 else 0)) := fun k hk => spc_next _ k hk
    have hsz : (fmtB xs).size ≤ 100 := by
      unfold fmtB; split
      · decide
      · show (fmtL xs).toArray.size ≤ 100; rw [List.size_toArray]; omega
    obtain ⟨S, hS⟩ : ∃ S, fmtB xs = S := ⟨_, rfl⟩
    rw [hS] at HS hsz ⊢
    have HSe := Lib.hid hS
    clear hS hle
    go_wp2_with fail
    go_loop [5, 6] (fun c i => ∃ k : Nat, k ≤ S.size ∧ i = .int .i64 k ∧ c = .int .i64 (spc (S.data.toList.take k) : Nat)) (fun _ i => S.size - (intOf i).toNat)
    case atStart => exact ⟨0, by omega, rfl, rfl⟩
    case round =>
      obtain ⟨k, hk, rfl, rfl⟩ := hrel
      have hle2 : spc (S.data.toList.take k) ≤ 100 := by
        have h1 : spc (S.data.toList.take k) ≤ (S.data.toList.take k).length := List.countP_le_length
        rw [List.length_take] at h1; omega
      by_cases hlt : k < S.size
      · have HSk := Lib.hid (HS.out k hlt)
        have ek : decide ((k : Int) < (S.size : Nat)) = true := by rw [decide_eq_true_eq]; omega
        cases hb : (((bt S k).toNat : Int) == 32)
        · have HSn : Hid (spc (S.data.toList.take (k + 1)) = spc (S.data.toList.take k)) := by show _ = _; rw [HSk.out, hb]; simp
          clear HSk
          go_wp2_with fail
          exact ⟨⟨k + 1, by omega, by go_num, by rw [HSn.out]⟩, by simp [intOf]; omega⟩
        · have HSn : Hid (spc (S.data.toList.take (k + 1)) = spc (S.data.toList.take k) + 1) := by show _ = _; rw [HSk.out, hb]; simp
          clear HSk
          go_wp2_with fail
          exact ⟨⟨k + 1, by omega, by go_num, by rw [HSn.out]; push_cast; rfl⟩, by simp [intOf]; omega⟩
      · obtain rfl : k = S.size := by omega
        have ht : S.data.toList.take S.size = S.data.toList := by rw [Lib.size_eq]; exact List.take_length
        rw [ht] at hle2 ⊢
        clear ht hlt hk HS
        match xs, HSe, hI, hin3, hx4, hcap with
        | [], HSe, _, _, _, _ =>
          have e : S = ⟨#[45]⟩ := HSe.out.symm
          subst e
          clear HSe
          go_wp2_with fail
          go_ret
          exact ⟨rfl, hb3⟩
        | [x], HSe, hI, hin3, _, hcap =>
          have HI := Lib.hid (fun (b : Option Addr) (c : Nat) => impl_FormatRanks b 0 c [] w3 ⟨rfl, .inl rfl⟩ (by omega) (fun y hy => by cases hy) (HTab.out _ hb3))
          have hsp : spc S.data.toList = 0 := by
            rw [← HSe.out]
            show spc (fmtL [x]) = 0
            exact spc_fmt x []
          have hfn : fmtB [] = ⟨#[45]⟩ := rfl
          simp only [List.length_cons, List.length_nil, Nat.zero_add] at *
          rw [hsp]
          by_cases hc1 : cap = 1
          · subst hc1
            go_wp2_with fail
            refine (HI.out _ _).mono ?_
            rintro e w4 ⟨rfl, hb4⟩
            rw [hfn]
            go_wp2_with fail
            go_ret
            exact ⟨rfl, hb3.trans (hb4.mono hb3.size)⟩
          · go_wp2_with fail
            refine (HI.out _ _).mono ?_
            rintro e w4 ⟨rfl, hb4⟩
            rw [hfn]
            go_wp2_with fail
            go_ret
            exact ⟨rfl, hb3.trans (hb4.mono hb3.size)⟩
        | x :: y :: r, HSe, hI, hin3, hx4, hcap =>
          have hin4 := hin3.tail
          have hI4 : I64 (y :: r) := fun z hz => hI z (by simp [List.mem_cons] at hz ⊢; exact .inr hz)
          obtain ⟨M, hM⟩ : ∃ M, (y :: r).length = M + 1 := ⟨r.length, rfl⟩
          have hN : (x :: y :: r).length = M + 1 + 1 := by rw [List.length_cons, hM]
          rw [hN] at hin3 hin4 hx4 hcap
          rw [hN]
          have ea : (⟨g, 0, none⟩ : Addr).add 1 = ⟨g, 1, none⟩ := rfl
          rw [ea, show M + 1 + 1 - 1 = M + 1 by omega] at hin4
          have HI := Lib.hid (fun (c : Nat) => impl_FormatRanks (some ⟨g, 1, none⟩) (M + 1) c (y :: r) w3 hin4 (by omega) hI4 (HTab.out _ hb3))
          have hsp : spc S.data.toList = M + 1 := by
            rw [← HSe.out]
            show spc (fmtL (x :: y :: r)) = M + 1
            rw [spc_fmt, hM]
          have hS2 : S = ⟨((Lib.itoa x ++ [32]) ++ fmtL (y :: r)).toArray⟩ := by
            rw [← HSe.out]
            show (⟨(fmtL (x :: y :: r)).toArray⟩ : ByteArray) = _
            rw [fmtL_two]
          have hR2 : fmtB (y :: r) = ⟨(fmtL (y :: r)).toArray⟩ := rfl
          have hcut : S.extract (S.size - (fmtB (y :: r)).size) S.size = fmtB (y :: r) := by rw [hS2, hR2]; exact cut_end _ _
          have hRS : (fmtB (y :: r)).size ≤ S.size := by
            rw [hS2, hR2]
            show (fmtL (y :: r)).toArray.size ≤ ((Lib.itoa x ++ [32]) ++ fmtL (y :: r)).toArray.size
            rw [List.size_toArray, List.size_toArray, List.length_append]; omega
          rw [hsp]
          have hc1 : ¬ cap = 1 := by omega
          clear hS2 hR2 hI hin3 hin4 hI4 HSe
          generalize fmtB (y :: r) = R at *
          go_wp2_with fail
          refine (HI.out _).mono ?_
          rintro e w4 ⟨rfl, hb4⟩
          go_wp2_with fail
          go_ret
          exact ⟨rfl, hb3.trans (hb4.mono hb3.size)⟩
  · go_enter Tryd.func4, Tryd.ntmps4
    go_wp2_with fail
    go_ret
    exact ⟨rfl, Below.refl _ _⟩
end Go.Proofs.YtaeibhpkcikaaaaDoor
