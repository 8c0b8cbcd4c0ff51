/- Plays with the best choices: the reference's parts. -/
import Derived.Test.YtaeibhpkcikaaaaGreatDoorBest
import Derived.Test.YtaeibhpkcikaaaaGreatDoorGN
import Derived.Test.YtaeibhpkcikaaaaGreatDoorSpQ
namespace Go.Proofs.YtaeibhpkcikaaaaGreatDoor
set_option linter.unusedVariables false
set_option linter.unusedSimpArgs false
open Go.RowKit Go.Shelf
set_option maxRecDepth 100000
set_option maxHeartbeats 4000000

/-- decimal digits alone -/
def digB (b : UInt8) : Bool := decide (48 ≤ b.toNat) && decide (b.toNat ≤ 57)
def digsOk (s : ByteArray) : Bool := s.data.toList.all digB
theorem digsOk_at (s : ByteArray) (k : Nat) (hk : k < s.size) (h : digsOk s = true) : digB (bt s k) = true := by
  have hk' : k < s.data.toList.length := by rw [← Lib.size_eq]; exact hk
  have e : bt s k = s.data.toList[k] := by unfold bt; rw [List.getD_eq_getElem?_getD, List.getElem?_eq_getElem hk']; rfl
  rw [e]
  exact List.all_eq_true.1 h _ (List.getElem_mem _)
theorem digsOk_of (s : ByteArray) (h : ∀ k, k < s.size → digB (bt s k) = true) : digsOk s = true := by
  unfold digsOk
  rw [List.all_eq_true]
  intro b hb
  obtain ⟨k, hk, rfl⟩ := List.getElem_of_mem hb
  have := h k (by rw [Lib.size_eq]; exact hk)
  have e : bt s k = s.data.toList[k] := by unfold bt; rw [List.getD_eq_getElem?_getD, List.getElem?_eq_getElem hk]; rfl
  rwa [e] at this
theorem spec_l6Digits (s : ByteArray) (hs : s.size ≤ 4611686018427387904) (w : World) : Calls Tryz.prog 14 #[.string s] w fun e w' => e = .returned (.bool (digsOk s)) ∧ w = w' := by
  go_enter Tryz.func14, Tryz.ntmps14
  go_wp2_with fail
  go_loop [3] (fun i => ∃ k : Nat, k ≤ s.size ∧ i = .int .i64 k ∧ Hid (∀ j, j < k → digB (bt s j) = true)) (fun i => s.size - (intOf i).toNat)
  case atStart => exact ⟨0, by omega, rfl, fun j hj => by omega⟩
  case round =>
    obtain ⟨k, hk, rfl, HK⟩ := hrel
    by_cases hlt : k < s.size
    · have hki : (k : Int) < (s.size : Int) := by omega
      cases hd : digB (bt s k)
      · have HF : Hid (digsOk s = false) := by
          show _ = _
          rw [Bool.eq_false_iff]; intro h; rw [digsOk_at s k hlt h] at hd; cases hd
        by_cases h1 : 48 ≤ (bt s k).toNat
        · have h2 : ¬ (bt s k).toNat ≤ 57 := fun h => by simp [digB, h1, h] at hd
          have e1 : ¬ ((bt s k).toNat : Int) < 48 := by omega
          have e2 : (57 : Int) < ((bt s k).toNat : Int) := by omega
          go_wp2_with fail
          go_ret
          rw [HF.out]; exact ⟨rfl, rfl⟩
        · have e1 : ((bt s k).toNat : Int) < 48 := by omega
          go_wp2_with fail
          go_ret
          rw [HF.out]; exact ⟨rfl, rfl⟩
      · have hd2 : 48 ≤ (bt s k).toNat ∧ (bt s k).toNat ≤ 57 := by simpa [digB] using hd
        have e1 : ¬ ((bt s k).toNat : Int) < 48 := by omega
        have e2 : ¬ (57 : Int) < ((bt s k).toNat : Int) := by omega
        have HD := Lib.hid hd
        clear hd hd2
        go_wp2_with fail
        go_round
        case rel => exact ⟨k + 1, by omega, by go_num, fun j hj => by
          rcases Nat.lt_or_ge j k with h | h
          · exact HK.out j h
          · obtain rfl : j = k := by omega
            exact HD.out⟩
        case measure => simp [intOf]; omega
    · obtain rfl : k = s.size := by omega
      have HT : Hid (digsOk s = true) := digsOk_of s HK.out
      go_wp2_with fail
      go_ret
      rw [HT.out]; exact ⟨rfl, rfl⟩
theorem sem_drop {ts : List Ct} {k : Nat} {t : Ct} (h : ts.reverse[k]? = some t) (p : Int) : semL (ts.drop (ts.length - (k + 1))) p = t.sem (semL (ts.drop (ts.length - k)) p).toNat := by
  have hk : k < ts.length := by have := (List.getElem?_eq_some_iff.1 h).1; simpa using this
  have e : ts.length - (k + 1) < ts.length := by omega
  rw [List.getElem?_reverse hk] at h
  obtain ⟨h1, h2⟩ := List.getElem?_eq_some_iff.1 h
  rw [List.drop_eq_getElem_cons e]
  have e2 : ts[ts.length - (k + 1)] = t := by rw [← h2]; congr 1; omega
  rw [e2, show ts.length - (k + 1) + 1 = ts.length - k by omega]; rfl
theorem fit_at {ts : List Ct} (hf : FitC ts) {k : Nat} {t : Ct} (h : ts.reverse[k]? = some t) : t.WF ∧ t.len ≤ 200 := hf t (by
  have := List.mem_of_getElem? h
  simpa using this)
theorem spec_l6Wins (ts : List Ct) (hf : FitC ts) (s : Nat) (hs : s < 4) (p : Int) (hp : C p) (L : Nat) (hL : ts.length = L) (hl : L ≤ 1000) (g cap : Nat) (w : World) (hT : Todo w g ts) (hc : L ≤ cap) :
    Calls Tryz.prog 51 #[.agg #[.slice (some ⟨g, 0, none⟩) L cap, .int .i64 s], .int .i64 p] w fun e w' => e = .returned (.bool (has (semL ts p) s)) ∧ Below w.heap.size w w' := by
  have HB0 := Blk.new w 38 #[.slice (some ⟨g, 0, none⟩) L cap, .int .i64 s]
  have hb0 := below_new (Below.refl w.heap.size w) (Obj.cells #[.slice (some ⟨g, 0, none⟩) L cap, .int .i64 s] 38)
  have HT := Lib.hid (hT.grown hb0)
  have HL := Lib.hid hL
  have H00 : semL (ts.drop (L - 0)) p = p := by rw [Nat.sub_zero, ← HL.out, List.drop_length]; rfl
  clear hT hL
  go_enter Tryz.func51, Tryz.ntmps51
  go_wp2_with fail
  go_loopw [1, 5] (fun q i wr => ∃ k : Nat, k ≤ L ∧ i = .int .i64 k ∧ q = .int .i64 (semL (ts.drop (L - k)) p) ∧ Blk wr w.heap.size 38 #[.slice (some ⟨g, 0, none⟩) L cap, .int .i64 s] ∧ Todo wr g ts ∧ Below w.heap.size w wr) (fun _ i _ => L - (intOf i).toNat)
  case atStart => exact ⟨0, by omega, rfl, by rw [H00], HB0, HT.out, hb0⟩
  case round =>
    obtain ⟨k, hk, rfl, rfl, HB, HTd, hb⟩ := hrel
    clear HB0 hb0 HT H00
    obtain ⟨c0, c1⟩ := HB.cell2
    have hcq : C (semL (ts.drop (L - k)) p) := semL_c (fun x hx => hf x (List.mem_of_mem_drop hx)) hp
    by_cases hlt : k < L
    · obtain ⟨t, ht⟩ : ∃ t, ts.reverse[k]? = some t := ⟨ts.reverse[k]'(by rw [List.length_reverse, HL.out]; exact hlt), List.getElem?_eq_getElem _⟩
      have hcell := HTd.lies k t ht
      have hft := fit_at hf ht
      have HSD : Hid (semL (ts.drop (L - (k + 1))) p = t.sem (semL (ts.drop (L - k)) p).toNat) := by have := sem_drop ht p; rwa [HL.out] at this
      have ek : decide ((k : Int) < (L : Nat)) = true := by rw [decide_eq_true_eq]; omega
      have hMon := t.mon hft.1
      clear ht
      generalize semL (ts.drop (L - k)) p = q at *
      go_wp2_with fail
      refine (spec_l5Trans t hft.1 hft.2 _).mono ?_
      rintro e w1 ⟨rfl, hb1⟩
      have HV := Lib.hid (val_txt 16 t.sem hMon.ok q.toNat (lt16 hcq))
      go_wp2_with fail
      refine (spec_l3ValueI _ _ _ (okTxt_txt 16 _ hMon.ok) hcq).mono ?_
      rintro e w' ⟨rfl, rfl⟩
      rw [HV.out]
      go_wp2_with fail
      refine ⟨⟨k + 1, by omega, by go_num, by rw [HSD.out], HB.grown hb1, HTd.grown hb1, below_step hb hb1⟩, by simp [intOf]; omega⟩
    · obtain rfl : k = L := by omega
      rw [Nat.sub_self, List.drop_zero] at hcq ⊢
      go_wp2_with fail
      refine (spec_l1Has _ _ _ (by omega)).mono ?_
      rintro e w' ⟨rfl, rfl⟩
      go_wp2_with fail
      go_ret
      exact ⟨rfl, hb⟩
theorem find_at {α : Type} (l : List α) (q : α → Bool) : ∀ (k : Nat) (x : α), l[k]? = some x → q x = true → (∀ j y, j < k → l[j]? = some y → q y = false) → l.find? q = some x := by
  induction l with
  | nil => intro k x h; simp at h
  | cons a l ih =>
    intro k x h hx hp
    cases k with
    | zero => simp at h; subst h; simp [List.find?, hx]
    | succ k =>
      have ha := hp 0 a (by omega) (by simp)
      simp only [List.getElem?_cons_succ] at h
      rw [List.find?_cons, ha]
      exact ih k x h hx fun j y hj hy => hp (j + 1) y (by omega) (by simpa using hy)
theorem optsB_atB (l : List Nat) (k x : Nat) (h : l[k]? = some x) : bt (optsB l) k = decB x := by
  obtain ⟨hk, rfl⟩ := List.getElem?_eq_some_iff.1 h
  exact bt_optsB l k hk
structure BestAt (w wr : World) (t : Ct) (us : List Ct) (s g cap : Nat) : Prop where
  a : Blk wr w.heap.size 38 #[.slice (some ⟨g, 0, none⟩) (us.length + 1) cap, .int .i64 s]
  t : Todo wr g (t :: us)
  b : Below w.heap.size w wr
theorem BestAt.grown {w wr wr' : World} {t : Ct} {us : List Ct} {s g cap : Nat} (h : BestAt w wr t us s g cap) (hb : Below wr.heap.size wr wr') : BestAt w wr' t us s g cap := ⟨h.a.grown hb, h.t.grown hb, below_step h.b hb⟩
theorem spec_l6Best (t : Ct) (us : List Ct) (hf : FitC (t :: us)) (s : Nat) (hs : s < 4) (hnx : t.next s = .pick) (hne : t.opts s ≠ []) (p : Int) (hp : C p) (ang : Bool) (hl : us.length ≤ 900) (g cap : Nat) (w : World) (hT : Todo w g (t :: us)) (hc : us.length + 1 ≤ cap) :
    Calls Tryz.prog 18 #[.agg #[.slice (some ⟨g, 0, none⟩) (us.length + 1) cap, .int .i64 s], .int .i64 p, .bool ang] w fun e w' => e = .returned (.int .u8 ((decB (pickOf p ang t us s)).toNat : Int)) ∧ Below w.heap.size w w' := by
  obtain ⟨fs, hu⟩ := at_u
  have hft := hf t (by simp)
  have hb0 := below_new (Below.refl w.heap.size w) (Obj.cells #[.slice (some ⟨g, 0, none⟩) (us.length + 1) cap, .int .i64 s] 38)
  have H0 : BestAt w (w.alloc (Obj.cells #[.slice (some ⟨g, 0, none⟩) (us.length + 1) cap, .int .i64 s] 38)) t us s g cap := ⟨Blk.new w _ _, hT.grown hb0, hb0⟩
  have HA0 := H0.a
  have HP : Hid (pickOf p ang t us s = ((t.opts s).find? fun k => winAt p t us s k == ang).getD ((t.opts s).headD 0)) := rfl
  clear hb0 hT
  go_enter Tryz.func18, Tryz.ntmps18
  go_wp2_with (refine wp_load_Blk rfl _ _ rfl w.heap.size rfl HA0 hu rfl at_i ?_)
  refine (spec_l6Options t hft.1 us s hs hnx g cap _ H0.t (by omega)).mono ?_
  rintro e w1 ⟨rfl, hb1⟩
  have H1 := H0.grown hb1
  clear H0 HA0 hb1
  have hsz := optsB_size (t.opts s)
  have hol := opts_le t s
  have HOL : Hid (∀ (k : Nat) x, (t.opts s)[k]? = some x → bt (optsB (t.opts s)) k = decB x) := fun k x h => optsB_atB _ k x h
  have HHD : Hid (bt (optsB (t.opts s)) 0 = decB ((t.opts s).headD 0)) := by
    show _ = _
    cases hl0 : t.opts s with
    | nil => exact absurd hl0 hne
    | cons a l => exact optsB_atB (a :: l) 0 a rfl
  have HLen : Hid (0 < (t.opts s).length) := List.length_pos_iff.2 hne
  generalize hTX : optsB (t.opts s) = TX at *
  clear hTX hne
  have HSZ := Lib.hid hsz
  have hTX4 : TX.size ≤ 4 := by omega
  have hTX0 : 0 < TX.size := by have := HLen.out; omega
  clear hsz hol
  go_wp2_with fail
  go_loopw [8] (fun i wr => ∃ k : Nat, k ≤ TX.size ∧ i = .int .i64 k ∧ Hid (∀ j y, j < k → (t.opts s)[j]? = some y → (winAt p t us s y == ang) = false) ∧ BestAt w wr t us s g cap) (fun i _ => TX.size - (intOf i).toNat)
  case atStart => exact ⟨0, by omega, rfl, (fun j y hj => by omega), H1⟩
  case round =>
    clear H1
    obtain ⟨k, hk, rfl, HK, H⟩ := hrel
    by_cases hlt : k < TX.size
    · have hki : (k : Int) < (TX.size : Int) := by omega
      have ek : decide ((k : Int) < (TX.size : Int)) = true := by rw [decide_eq_true_eq]; exact hki
      obtain ⟨x, hx⟩ : ∃ x, (t.opts s)[k]? = some x := ⟨(t.opts s)[k]'(by have := HSZ.out; omega), List.getElem?_eq_getElem _⟩
      have hbx := HOL.out k x hx
      have hx4 := opts_lt (List.mem_of_getElem? hx)
      have HCC : Hid ((bt TX k).toNat = 48 + x) := by show _ = _; rw [hbx, decB_toNat hx4]
      have HMem := Lib.hid (List.mem_of_getElem? hx)
      have HBx := Lib.hid hbx
      have HX := Lib.hid hx
      have HFC := Lib.hid (fit_chose hf s x)
      have hclt := chose_lt hs (List.mem_of_getElem? hx)
      have hlen2 : ((t.chose s x).2 ++ us).length ≤ 1000 := by rw [List.length_append]; have := (fit_chose hf s x).2; omega
      clear hx hbx
      have HLD := H.a
      go_wp2_with fail
      refine wp_region_held_drew (S := fun W => Below wr.heap.size wr W) (by kernel_rfl) ?_ (fun hS => ?_)
      · exact (Below.refl _ _).drew
      refine wpAnyH_take (i := 0) (v := .agg #[.slice (some ⟨g, 0, none⟩) (us.length + 1) cap, .int .i64 s]) rfl (by kernel_rfl) (by kernel_rfl) (by kernel_rfl) (fun _ _ _ h => h) (yields_Blk (by rfl) _ _ rfl w.heap.size rfl (fun _ h => HLD.grown h) hu rfl at_i) hS ?_
      simp only [Act.put, List.getElem_toArray, List.getElem_cons_succ, List.getElem_cons_zero, List.setIfInBounds_toArray, List.set_cons_zero, List.set_cons_succ]
      refine wpAnyH_take (i := 1) (v := .string TX) rfl (by kernel_rfl) (by kernel_rfl) (by kernel_rfl) (fun _ _ _ h => h) (Or.inl ⟨by rfl, ?_⟩) hS ?_
      · intro w hSw
        go_simp
      simp only [Act.put, List.getElem_toArray, List.getElem_cons_succ, List.getElem_cons_zero, List.setIfInBounds_toArray, List.set_cons_zero, List.set_cons_succ]
      refine wpAnyH_take (i := 2) (v := .int .i64 k) rfl (by kernel_rfl) (by kernel_rfl) (by kernel_rfl) (fun _ _ _ h => h) (Or.inl ⟨by rfl, ?_⟩) hS ?_
      · intro w hSw
        go_simp
      simp only [Act.put, List.getElem_toArray, List.getElem_cons_succ, List.getElem_cons_zero, List.setIfInBounds_toArray, List.set_cons_zero, List.set_cons_succ]
      refine wpAnyH_take (i := 3) (v := .int .u8 ((bt TX k).toNat : Int)) rfl (by kernel_rfl) (by kernel_rfl) (by kernel_rfl) (fun _ _ _ h => h) (Or.inl ⟨by rfl, ?_⟩) hS ?_
      · intro w hSw
        go_simp
      simp only [Act.put, List.getElem_toArray, List.getElem_cons_succ, List.getElem_cons_zero, List.setIfInBounds_toArray, List.set_cons_zero, List.set_cons_succ]
      refine wpAnyH_take (i := 5) (v := .int .i64 p) rfl (by kernel_rfl) (by kernel_rfl) (by kernel_rfl) (fun _ _ _ h => h) (Or.inl ⟨by rfl, ?_⟩) hS ?_
      · intro w hSw
        go_simp
      simp only [Act.put, List.getElem_toArray, List.getElem_cons_succ, List.getElem_cons_zero, List.setIfInBounds_toArray, List.set_cons_zero, List.set_cons_succ]
      refine wpAnyH_take (i := 7) (v := .bool ang) rfl (by kernel_rfl) (by kernel_rfl) (by kernel_rfl) (fun _ _ _ h => h) (Or.inl ⟨by rfl, ?_⟩) hS ?_
      · intro w hSw
        go_simp
      simp only [Act.put, List.getElem_toArray, List.getElem_cons_succ, List.getElem_cons_zero, List.setIfInBounds_toArray, List.set_cons_zero, List.set_cons_succ]
      refine wpAnyH_ready (rs := [4]) (by kernel_rfl) (by simp) ?_
      refine AllReadyH.cons rfl (fun K hK => ?_) AllReadyH.nil
      rw [if_pos (by rfl)]
      refine op_call 19 _ _ rfl (enters_of Tryz.func19 (by kernel_rfl) rfl) _ (spec_l6Choose t us s hs _ x HCC.out hnx HMem.out g cap _ hft.1 hft.2 (H.t.grown hS) (by omega) hc) rfl ?_
      rintro e w5 ⟨hb5, g3, cap3, rfl, hT5, hc5⟩
      refine ⟨_, rfl, ?_⟩
      have hS5 := below_step hS hb5
      refine hK.out _ _ hS5 (fun hS1 => ?_)
      clear hK K hS
      simp only [Act.put, List.getElem_toArray, List.getElem_cons_succ, List.getElem_cons_zero, List.setIfInBounds_toArray, List.set_cons_zero, List.set_cons_succ]
      refine wpAnyH_ready (rs := [6]) (by kernel_rfl) (by simp) ?_
      refine AllReadyH.cons rfl (fun K hK => ?_) AllReadyH.nil
      rw [if_pos (by rfl)]
      refine op_call 51 _ _ rfl (enters_of Tryz.func51 (by kernel_rfl) rfl) _ (spec_l6Wins _ HFC.out.1 _ hclt p hp _ rfl hlen2 g3 cap3 _ hT5 hc5) rfl ?_
      rintro e w6 ⟨rfl, hb6⟩
      refine ⟨_, rfl, ?_⟩
      have hS6 := below_step hS5 hb6
      refine hK.out _ _ hS6 (fun hS2 => ?_)
      clear hK K hS1
      simp only [Act.put, List.getElem_toArray, List.getElem_cons_succ, List.getElem_cons_zero, List.setIfInBounds_toArray, List.set_cons_zero, List.set_cons_succ]
      have hS := hS6
      refine wpAnyH_take (i := 8) (v := .bool (has (semL ((t.chose s x).2 ++ us) p) (t.chose s x).1 == ang)) rfl (by kernel_rfl) (by kernel_rfl) (by kernel_rfl) (fun _ _ _ h => h) (Or.inl ⟨by rfl, ?_⟩) hS ?_
      · intro w hSw
        go_simp
      simp only [Act.put, List.getElem_toArray, List.getElem_cons_succ, List.getElem_cons_zero, List.setIfInBounds_toArray, List.set_cons_zero, List.set_cons_succ]
      refine wpAnyH_done (by kernel_rfl) ?_ _
      rw [show has (semL ((t.chose s x).2 ++ us) p) (t.chose s x).1 = winAt p t us s x from rfl]
      have H6 := H.grown hS6
      clear H HLD hb5 hb6 hS5 hS6 hT5 hS
      cases hw : winAt p t us s x == ang
      · have HW := Lib.hid hw
        clear hw
        go_wp2_with fail
        refine ⟨⟨k + 1, by omega, by go_num, fun j y hj hy => ?_, H6⟩, by simp [intOf]; omega⟩
        rcases Nat.lt_or_ge j k with h | h
        · exact HK.out j y h hy
        · obtain rfl : j = k := by omega
          rw [HX.out] at hy
          cases hy
          exact HW.out
      · have HW := Lib.hid hw
        clear hw
        have HPk : Hid (pickOf p ang t us s = x) := by
          show _ = _
          rw [HP.out, find_at (t.opts s) (fun k => winAt p t us s k == ang) k x HX.out HW.out HK.out]; rfl
        have hb := H6.b
        go_wp2_with fail
        go_ret
        rw [HPk.out, ← HBx.out]
        exact ⟨rfl, hb⟩
    · obtain rfl : k = TX.size := by omega
      have HN : Hid (pickOf p ang t us s = (t.opts s).headD 0) := by
        show _ = _
        rw [HP.out]
        have : (t.opts s).find? (fun k => winAt p t us s k == ang) = none := by
          rw [List.find?_eq_none]
          intro y hy
          obtain ⟨j, hj, rfl⟩ := List.getElem_of_mem hy
          have := HK.out j _ (by have := HSZ.out; omega) (List.getElem?_eq_getElem hj)
          simp [this]
        rw [this]; rfl
      have hb := H.b
      go_wp2_with fail
      go_ret
      rw [HN.out, HHD.out]
      exact ⟨rfl, hb⟩
end Go.Proofs.YtaeibhpkcikaaaaGreatDoor
