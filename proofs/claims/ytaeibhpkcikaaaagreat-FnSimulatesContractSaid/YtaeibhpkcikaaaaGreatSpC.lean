/- Contracts: the reference's contracts of concrete states (printed by mk11.py). -/
import Derived.Test.YtaeibhpkcikaaaaGreatSp5d
import Derived.Test.YtaeibhpkcikaaaaGreatGF
import Derived.Test.YtaeibhpkcikaaaaGreatGI
namespace Go.Proofs.YtaeibhpkcikaaaaGreat
set_option linter.unusedVariables false
set_option linter.unusedSimpArgs false
open Go.RowKit Go.Shelf
set_option maxRecDepth 100000
set_option maxHeartbeats 1000000

theorem ones_end : ∀ n : _root_.Fin 16, ∀ j : _root_.Fin 5, ((n.val : Int) / 2 ^ j.val = 0) → ones (n.val : Int) j.val = ones (n.val : Int) 4 := by decide +kernel
theorem div_pos : ∀ n : _root_.Fin 16, ∀ j : _root_.Fin 5, 0 < ((n.val : Int) / 2 ^ j.val) → j.val < 4 := by decide +kernel
theorem div_nn : ∀ n : _root_.Fin 16, ∀ j : _root_.Fin 5, 0 ≤ ((n.val : Int) / 2 ^ j.val) ∧ ((n.val : Int) / 2 ^ j.val) ≤ 15 := by decide +kernel
theorem div_dn : ∀ n : _root_.Fin 16, ∀ j : _root_.Fin 5, 0 < ((n.val : Int) / 2 ^ j.val) → ((n.val : Int) / 2 ^ (j.val + 1)).toNat < ((n.val : Int) / 2 ^ j.val).toNat := by decide +kernel
theorem div_two : ∀ n : _root_.Fin 16, ∀ j : _root_.Fin 5, ((n.val : Int) / 2 ^ j.val) / 2 = (n.val : Int) / 2 ^ (j.val + 1) := by decide +kernel
theorem spec_l1Ones (p : Int) (hp : C p) (w : World) : Calls Tryz.prog 74 #[.int .i64 p] w fun e w' => e = .returned (.int .i64 (ones p 4)) ∧ w = w' := by
  obtain ⟨n, hn⟩ : ∃ n : _root_.Fin 16, p = (n.val : Int) := ⟨⟨p.toNat, lt16 hp⟩, (toNat_cast hp).symm⟩
  subst hn
  have HP := Lib.hid hp
  clear hp
  go_enter Tryz.func74, Tryz.ntmps74
  go_wp2_with fail
  go_loop [0, 3] (fun a k => ∃ j : Nat, j ≤ 4 ∧ a = .int .i64 ((n.val : Int) / 2 ^ j) ∧ k = .int .i64 (ones (n.val : Int) j)) (fun a _ => (intOf a).toNat)
  case atStart => exact ⟨0, by omega, by simp, rfl⟩
  case round =>
    obtain ⟨j, hj, rfl, rfl⟩ := hrel
    have HE := Lib.hid (ones_end n ⟨j, by omega⟩)
    have HQ := Lib.hid (div_pos n ⟨j, by omega⟩)
    have HD := Lib.hid (div_dn n ⟨j, by omega⟩)
    have HT := Lib.hid (div_two n ⟨j, by omega⟩)
    have hnn := div_nn n ⟨j, by omega⟩
    have h1 := ones_le HP.out j (by omega)
    obtain ⟨h1a, h1b⟩ := h1
    have h3 : 0 ≤ bits .and .i64 ((n.val : Int) / 2 ^ j) 1 ∧ bits .and .i64 ((n.val : Int) / 2 ^ j) 1 ≤ 15 := C.and (p := (n.val : Int) / 2 ^ j) hnn ⟨by decide, by decide⟩
    simp only [] at hnn HE HQ HD HT
    generalize hA : (n.val : Int) / 2 ^ j = A at *
    generalize hB : bits .and .i64 A 1 = B at *
    have HA := Lib.hid hA
    have HB := Lib.hid hB
    clear hA hB
    obtain ⟨h3a, h3b⟩ := h3
    obtain ⟨h4a, h4b⟩ := hnn
    have h5a : 0 ≤ ones (n.val : Int) j + B := by omega
    have h5b : ones (n.val : Int) j + B ≤ 20 := by omega
    generalize hO : ones (n.val : Int) j = O at *
    have HO := Lib.hid hO
    clear hO
    by_cases hlt : 0 < A
    · go_wp2_with fail
      rw [HB.out]
      go_round
      case rel => exact ⟨j + 1, by have := HQ.out hlt; omega, by rw [← HT.out], by simp only [ones]; rw [HA.out, HB.out, HO.out]; exact congrArg _ (by unfold wrap64; omega)⟩
      case measure => have := HD.out hlt; rw [← HT.out] at this; simpa [intOf] using this
    · go_wp2_with fail
      go_ret
      exact ⟨ret_int (HE.out (by omega)), rfl⟩
theorem spec_IsFunction (r : ByteArray) (hr : r.size ≤ 4611686018427387904) (w : World) : Calls Tryz.prog 34 #[.string r] w fun e w' => e = .returned (.bool (okTxt 4 r && isFn (val r))) ∧ w = w' := by
  cases h1 : okTxt 4 r
  · have H1 := Lib.hid h1; clear h1
    go_enter Tryz.func34, Tryz.ntmps34
    go_wp2_with fail
    go_loop [3] (fun i => i = .int .i64 0) (fun _ => 0)
    case atStart => rfl
    case round =>
      obtain rfl := hrel
      go_wp2_with fail
      refine (spec_RelValid _ _ hr).mono ?_
      rintro e w' ⟨rfl, rfl⟩
      rw [H1.out]
      go_wp2_with fail
      refine (spec_RelValid _ _ hr).mono ?_
      rintro e w' ⟨rfl, rfl⟩
      rw [H1.out]
      go_wp2_with fail
      go_ret
      exact ⟨rfl, rfl⟩
  · have H1 := Lib.hid h1; clear h1
    go_enter Tryz.func34, Tryz.ntmps34
    go_wp2_with fail
    go_loop [3] (fun i => ∃ k : Nat, k ≤ 4 ∧ i = .int .i64 k ∧ fnTo (val r) k = true) (fun i => 4 - (intOf i).toNat)
    case atStart => exact ⟨0, by omega, rfl, rfl⟩
    case round =>
      obtain ⟨k, hk, rfl, hf⟩ := hrel
      have HF := Lib.hid hf
      clear hf
      by_cases hlt : k < 4
      · cases hb : (ones (val r k) 4 != 1)
        · have HB := Lib.hid hb
          go_wp2_with fail
          refine (spec_RelValid _ _ hr).mono ?_
          rintro e w' ⟨rfl, rfl⟩
          rw [H1.out]
          go_wp2_with fail
          refine (spec_l2To r 4 k _ H1 hlt).mono ?_
          rintro e w' ⟨rfl, rfl⟩
          go_wp2_with fail
          refine (spec_l1Ones _ (val_ok r k) _).mono ?_
          rintro e w' ⟨rfl, rfl⟩
          go_wp2_with fail
          go_round
          case rel => exact ⟨k + 1, by omega, by go_num, by rw [fnTo_succ, HF.out]; have := HB.out; simpa using this⟩
          case measure => simp [intOf]; omega
        · have HB := Lib.hid hb
          go_wp2_with fail
          refine (spec_RelValid _ _ hr).mono ?_
          rintro e w' ⟨rfl, rfl⟩
          rw [H1.out]
          go_wp2_with fail
          refine (spec_l2To r 4 k _ H1 hlt).mono ?_
          rintro e w' ⟨rfl, rfl⟩
          go_wp2_with fail
          refine (spec_l1Ones _ (val_ok r k) _).mono ?_
          rintro e w' ⟨rfl, rfl⟩
          go_wp2_with fail
          go_ret
          refine ⟨ret_bool ?_, rfl⟩
          symm
          rw [Bool.true_and, Bool.eq_false_iff]
          intro hfn
          have h3 : (ones (val r k) 4 == 1) = true := by
            unfold isFn at hfn
            rw [List.all_eq_true] at hfn
            exact hfn k (List.mem_range.2 hlt)
          have := HB.out
          simp [bne, h3] at this
      · obtain rfl : k = 4 := by omega
        go_wp2_with fail
        refine (spec_RelValid _ _ hr).mono ?_
        rintro e w' ⟨rfl, rfl⟩
        rw [H1.out]
        go_wp2_with fail
        refine (spec_RelValid _ _ hr).mono ?_
        rintro e w' ⟨rfl, rfl⟩
        rw [H1.out]
        go_wp2_with fail
        go_ret
        exact ⟨ret_bool (by rw [Bool.true_and]; exact HF.out.symm), rfl⟩

/-- the contract of a contract of concrete states -/
def ConYes (r : ByteArray) (t : Ct) : Prop := ∀ w : World, Calls Tryz.prog 36 #[.string r, .string t.text] w fun e w' =>
  e = .returned (.tuple #[.string (orNone (t.knows concOp && t.fits (val r)) (t.conc (val r)).text), .bool (t.knows concOp && t.fits (val r))]) ∧ Below w.heap.size w w'
theorem ret_con {a a' : ByteArray} {b b' : Bool} (hb : b' = b) (ha : a' = a) : Ending.returned (.tuple #[.string a, .bool b]) = .returned (.tuple #[.string a', .bool b']) := by rw [ha, hb]
theorem img_congr {r q : Nat → Int} (h : ∀ k, k < 4 → r k = q k) (p : Int) : img r p = img q p := orf_congr (fun _ _ => rfl) h

theorem spec_con115 (r : ByteArray) (d : List Int) (ht : (Ct.n0 115 d).WF) (hn : d.length = 0) (hlen : (Ct.n0 115 d).len ≤ 200) : ConYes r (.n0 115 d) := by
  have hop := op_text (Ct.n0 115 d)
  have hb0 : ((bt (Ct.n0 115 d).text 0).toNat : Int) = 115 := by rw [hop]; rfl
  have hs0 : 0 < (Ct.n0 115 d).text.size := by rw [Ct.text_size]; exact (Ct.n0 115 d).len_pos
  have hs1 : 1 ≤ (Ct.n0 115 d).text.size := by rw [Ct.text_size]; have := (Ct.n0 115 d).len_head; rw [show (Ct.n0 115 d).ds.length = 0 from hn] at this; exact this
  clear hop
  intro w
  go_enter Tryz.func36, Tryz.ntmps36
  go_wp2_with fail
  refine (spec_l5Parts (Ct.n0 115 d) ht hlen w).mono ?_
  rintro e w1 ⟨⟨g, cap, rfl, hg⟩, hb⟩
  go_wp2_with fail
  go_ret2
  exact ⟨ret_con rfl rfl, hb⟩

theorem spec_con97 (r : ByteArray) (d : List Int) (ht : (Ct.n0 97 d).WF) (hn : d.length = 0) (hlen : (Ct.n0 97 d).len ≤ 200) : ConYes r (.n0 97 d) := by
  have hop := op_text (Ct.n0 97 d)
  have hb0 : ((bt (Ct.n0 97 d).text 0).toNat : Int) = 97 := by rw [hop]; rfl
  have hs0 : 0 < (Ct.n0 97 d).text.size := by rw [Ct.text_size]; exact (Ct.n0 97 d).len_pos
  have hs1 : 1 ≤ (Ct.n0 97 d).text.size := by rw [Ct.text_size]; have := (Ct.n0 97 d).len_head; rw [show (Ct.n0 97 d).ds.length = 0 from hn] at this; exact this
  clear hop
  intro w
  go_enter Tryz.func36, Tryz.ntmps36
  go_wp2_with fail
  refine (spec_l5Parts (Ct.n0 97 d) ht hlen w).mono ?_
  rintro e w1 ⟨⟨g, cap, rfl, hg⟩, hb⟩
  go_wp2_with fail
  go_ret2
  exact ⟨ret_con rfl rfl, hb⟩

theorem spec_con109 (r : ByteArray) (d : List Int) (ht : (Ct.n0 109 d).WF) (hn : d.length = 0) (hlen : (Ct.n0 109 d).len ≤ 200) : ConYes r (.n0 109 d) := by
  have hop := op_text (Ct.n0 109 d)
  have hb0 : ((bt (Ct.n0 109 d).text 0).toNat : Int) = 109 := by rw [hop]; rfl
  have hs0 : 0 < (Ct.n0 109 d).text.size := by rw [Ct.text_size]; exact (Ct.n0 109 d).len_pos
  have hs1 : 1 ≤ (Ct.n0 109 d).text.size := by rw [Ct.text_size]; have := (Ct.n0 109 d).len_head; rw [show (Ct.n0 109 d).ds.length = 0 from hn] at this; exact this
  clear hop
  intro w
  go_enter Tryz.func36, Tryz.ntmps36
  go_wp2_with fail
  refine (spec_l5Parts (Ct.n0 109 d) ht hlen w).mono ?_
  rintro e w1 ⟨⟨g, cap, rfl, hg⟩, hb⟩
  go_wp2_with fail
  go_ret2
  exact ⟨ret_con rfl rfl, hb⟩

theorem spec_con63 (r : ByteArray) (d : List Int) (ht : (Ct.n0 63 d).WF) (hn : d.length = 1) (hlen : (Ct.n0 63 d).len ≤ 200) : ConYes r (.n0 63 d) := by
  have hop := op_text (Ct.n0 63 d)
  have hb0 : ((bt (Ct.n0 63 d).text 0).toNat : Int) = 63 := by rw [hop]; rfl
  have hs0 : 0 < (Ct.n0 63 d).text.size := by rw [Ct.text_size]; exact (Ct.n0 63 d).len_pos
  have hs1 : 2 ≤ (Ct.n0 63 d).text.size := by rw [Ct.text_size]; have := (Ct.n0 63 d).len_head; rw [show (Ct.n0 63 d).ds.length = 1 from hn] at this; exact this
  clear hop
  intro w
  go_enter Tryz.func36, Tryz.ntmps36
  go_wp2_with fail
  refine (spec_l5Parts (Ct.n0 63 d) ht hlen w).mono ?_
  rintro e w1 ⟨⟨g, cap, rfl, hg⟩, hb⟩
  go_wp2_with fail
  go_ret2
  exact ⟨ret_con rfl rfl, hb⟩

theorem spec_con68 (r : ByteArray) (d : List Int) (ht : (Ct.n0 68 d).WF) (hn : d.length = 4) (hlen : (Ct.n0 68 d).len ≤ 200) : ConYes r (.n0 68 d) := by
  have hop := op_text (Ct.n0 68 d)
  have hb0 : ((bt (Ct.n0 68 d).text 0).toNat : Int) = 68 := by rw [hop]; rfl
  have hs0 : 0 < (Ct.n0 68 d).text.size := by rw [Ct.text_size]; exact (Ct.n0 68 d).len_pos
  have hs1 : 5 ≤ (Ct.n0 68 d).text.size := by rw [Ct.text_size]; have := (Ct.n0 68 d).len_head; rw [show (Ct.n0 68 d).ds.length = 4 from hn] at this; exact this
  clear hop
  intro w
  go_enter Tryz.func36, Tryz.ntmps36
  go_wp2_with fail
  refine (spec_l5Parts (Ct.n0 68 d) ht hlen w).mono ?_
  rintro e w1 ⟨⟨g, cap, rfl, hg⟩, hb⟩
  go_wp2_with fail
  go_ret2
  exact ⟨ret_con rfl rfl, hb⟩

theorem spec_con33 (r : ByteArray) (HR : Hid (okTxt 4 r = true)) (d : List Int) (ht : (Ct.n0 33 d).WF) (hn : d.length = 1) (hlen : (Ct.n0 33 d).len ≤ 200) : ConYes r (.n0 33 d) := by
  have HD : Hid (hx (bt (Ct.n0 33 d).text 1) = dsF d 0) := dig_ext ht hn
  have hdc := dia_ok (val r) (dsF d 0)
  have hop := op_text (Ct.n0 33 d)
  have hb0 : ((bt (Ct.n0 33 d).text 0).toNat : Int) = 33 := by rw [hop]; rfl
  have hs0 : 0 < (Ct.n0 33 d).text.size := by rw [Ct.text_size]; exact (Ct.n0 33 d).len_pos
  have hs1 : 2 ≤ (Ct.n0 33 d).text.size := by rw [Ct.text_size]; have := (Ct.n0 33 d).len_head; rw [show (Ct.n0 33 d).ds.length = 1 from hn] at this; exact this
  clear hop
  intro w
  go_enter Tryz.func36, Tryz.ntmps36
  go_wp2_with fail
  refine (spec_l5Parts (Ct.n0 33 d) ht hlen w).mono ?_
  rintro e w1 ⟨⟨g, cap, rfl, hg⟩, hb⟩
  go_wp2_with fail
  refine (spec_l2Hex _ _).mono ?_
  rintro e w' ⟨rfl, rfl⟩
  go_wp2_with fail
  rw [HD.out]
  refine (spec_l2Diamond _ _ _ HR).mono ?_
  rintro e w' ⟨rfl, rfl⟩
  go_wp2_with fail
  refine (spec_l2Digit _ _ hdc.1 hdc.2).mono ?_
  rintro e w' ⟨rfl, rfl⟩
  go_wp2_with fail
  go_ret2
  exact ⟨ret_con rfl rfl, hb⟩

theorem spec_con65 (r : ByteArray) (HR : Hid (okTxt 4 r = true)) (d : List Int) (ht : (Ct.n0 65 d).WF) (hn : d.length = 4) (hlen : (Ct.n0 65 d).len ≤ 200) : ConYes r (.n0 65 d) := by
  have hre := rel_ext ht hn
  have HE := Lib.hid hre.1
  have hC1 : Cond fun s => img (val ((Ct.n0 65 d).text.extract 1 5)) (val r s) := fun s => img_ok (val_ok _) _
  have HC1 := Lib.hid (okTxt_txt 4 _ hC1)
  have HC2 := Lib.hid (okTxt_txt 4 _ (turn_ok (val r)))
  have HT : Hid ((⟨#[65]⟩ : ByteArray) ++ txt 4 (fun s => img (val (txt 4 (turn (val r)))) (val (txt 4 fun s => img (val ((Ct.n0 65 d).text.extract 1 5)) (val r s)) s)) = ((Ct.n0 65 d).conc (val r)).text) := by
    have e1 : txt 4 (fun s => img (val (txt 4 (turn (val r)))) (val (txt 4 fun s => img (val ((Ct.n0 65 d).text.extract 1 5)) (val r s)) s)) = txt 4 (concR (val r) d) := txt_ext fun k hk => by
      rw [val_txt 4 _ hC1 k hk, img_congr (eq4_txt (turn_ok (val r))), img_congr hre.2]; rfl
    show _ = _
    rw [e1]; rfl
  have hst : (bits .andNot .i64 (img (val ((Ct.n0 65 d).text.extract 1 5)) (img (val r) 15)) (img (val r) 15) != 0) = !staysR (img (val r) 15) (dsF d) := by
    rw [img_congr hre.2]; simp [staysR, bne]
  have HF : Hid (((Ct.n0 65 d).knows concOp && (Ct.n0 65 d).fits (val r)) = staysR (img (val r) 15) (dsF d)) := rfl
  clear hre hC1
  cases hs : staysR (img (val r) 15) (dsF d)
  all_goals
    rw [hs] at hst HF
    simp only [Bool.not_true, Bool.not_false] at hst
    have hop := op_text (Ct.n0 65 d)
    have hb0 : ((bt (Ct.n0 65 d).text 0).toNat : Int) = 65 := by rw [hop]; rfl
    have hs0 : 0 < (Ct.n0 65 d).text.size := by rw [Ct.text_size]; exact (Ct.n0 65 d).len_pos
    have hs1 : 5 ≤ (Ct.n0 65 d).text.size := by rw [Ct.text_size]; have := (Ct.n0 65 d).len_head; rw [show (Ct.n0 65 d).ds.length = 4 from hn] at this; exact this
    clear hop
    intro w
    go_enter Tryz.func36, Tryz.ntmps36
    go_wp2_with fail
    refine (spec_l5Parts (Ct.n0 65 d) ht hlen w).mono ?_
    rintro e w1 ⟨⟨g, cap, rfl, hg⟩, hb⟩
    go_wp2_with fail
    refine (spec_l2Image _ _ _ HR).mono ?_
    rintro e w' ⟨rfl, rfl⟩
    go_wp2_with fail
    refine (spec_l2Image _ _ _ HE).mono ?_
    rintro e w' ⟨rfl, rfl⟩
    go_wp2_with fail
  · go_ret2
    exact ⟨ret_con HF.out (by rw [HF.out]; rfl), hb⟩
  · refine (spec_l2Compose _ _ _ HR HE).mono ?_
    rintro e w' ⟨rfl, rfl⟩
    go_wp2_with fail
    refine (spec_l2Turn' _ _ HR).mono ?_
    rintro e w' ⟨rfl, rfl⟩
    go_wp2_with fail
    refine (spec_l2Compose _ _ _ HC1 HC2).mono ?_
    rintro e w' ⟨rfl, rfl⟩
    go_wp2_with fail
    go_ret2
    exact ⟨ret_con HF.out (by rw [HF.out]; exact HT.out.symm), hb⟩

theorem spec_con119 (r : ByteArray) (d : List Int) (x : Ct) (ht : (Ct.n1 119 d x).WF) (hlen : (Ct.n1 119 d x).len ≤ 200) : ConYes r (Ct.n1 119 d x) := by
  have hop := op_text (Ct.n1 119 d x)
  have hb0 : ((bt (Ct.n1 119 d x).text 0).toNat : Int) = 119 := by rw [hop]; rfl
  have hs0 : 0 < (Ct.n1 119 d x).text.size := by rw [Ct.text_size]; exact (Ct.n1 119 d x).len_pos
  have hs1 : 1 ≤ (Ct.n1 119 d x).text.size := hs0
  clear hop
  intro w
  go_enter Tryz.func36, Tryz.ntmps36
  go_wp2_with fail
  refine (spec_l5Parts (Ct.n1 119 d x) ht hlen w).mono ?_
  rintro e w1 ⟨⟨g, cap, rfl, hg⟩, hb⟩
  go_wp2_with fail
  go_ret2
  exact ⟨ret_con rfl rfl, hb⟩

theorem spec_con105 (r : ByteArray) (d : List Int) (x y : Ct) (ht : (Ct.n2 105 d x y).WF) (hlen : (Ct.n2 105 d x y).len ≤ 200) : ConYes r (Ct.n2 105 d x y) := by
  have hop := op_text (Ct.n2 105 d x y)
  have hb0 : ((bt (Ct.n2 105 d x y).text 0).toNat : Int) = 105 := by rw [hop]; rfl
  have hs0 : 0 < (Ct.n2 105 d x y).text.size := by rw [Ct.text_size]; exact (Ct.n2 105 d x y).len_pos
  have hs1 : 1 ≤ (Ct.n2 105 d x y).text.size := hs0
  clear hop
  intro w
  go_enter Tryz.func36, Tryz.ntmps36
  go_wp2_with fail
  refine (spec_l5Parts (Ct.n2 105 d x y) ht hlen w).mono ?_
  rintro e w1 ⟨⟨g, cap, rfl, hg⟩, hb⟩
  go_wp2_with fail
  go_ret2
  exact ⟨ret_con rfl rfl, hb⟩

theorem spec_con42 (r : ByteArray) (x : Ct) (ht : (Ct.n1 42 [] x).WF) (hlen : (Ct.n1 42 [] x).len ≤ 200) (ih : ∀ z ∈ (Ct.n1 42 [] x).parts, ConYes r z) : ConYes r (Ct.n1 42 [] x) := by
  have HK : Hid (((Ct.n1 42 [] x).knows concOp && (Ct.n1 42 [] x).fits (val r)) = (Ct.n1 42 [] x).parts.all fun z => z.knows concOp && z.fits (val r)) := by
    show _ = _
    rw [Ct.knows_parts, Ct.fits_parts]
    simp [Ct.op, Ct.ds, concOp, fitsD, Ct.parts, Bool.and_assoc, Bool.and_left_comm]
  have HT : Hid (((Ct.n1 42 [] x).conc (val r)).text = ⟨(42 :: catB ((Ct.n1 42 [] x).parts.map (·.conc (val r)))).toArray⟩) := by
    show _ = _
    unfold Ct.text
    rw [Ct.bytes_parts, Ct.conc_parts]
    rfl
  have hwl : ∀ z ∈ (Ct.n1 42 [] x).parts, (orNone true (z.conc (val r)).text).size ≤ 200 := fun z hz => by
    have h1 := Ct.conc_len (val r) z (Ct.parts_wf ht z hz)
    have h2 := Ct.len_part hz
    show (z.conc (val r)).text.size ≤ 200
    rw [Ct.text_size]; omega
  have HP := Lib.hid (Ct.parts_le (Ct.n1 42 [] x))
  have hx1 : (Ct.n1 42 [] x).text.extract 0 1 = ⟨#[42]⟩ := by
    apply ByteArray.ext; apply Array.ext'
    simp [Ct.text, Ct.bytes, ByteArray.data_extract]
  have hop := op_text (Ct.n1 42 [] x)
  have hb0 : ((bt (Ct.n1 42 [] x).text 0).toNat : Int) = 42 := by rw [hop]; rfl
  have hs0 : 0 < (Ct.n1 42 [] x).text.size := by rw [Ct.text_size]; exact (Ct.n1 42 [] x).len_pos
  have hs1 : 1 ≤ (Ct.n1 42 [] x).text.size := hs0
  clear hop
  intro w
  go_enter Tryz.func36, Tryz.ntmps36
  go_wp2_with fail
  refine (spec_l5Parts (Ct.n1 42 [] x) ht hlen w).mono ?_
  rintro e w1 ⟨⟨g, cap, rfl, hg⟩, hb⟩
  rw [show (Ct.n1 42 [] x).parts.length = (Ct.n1 42 [] x).parts.length from rfl]
  generalize hL : (Ct.n1 42 [] x).parts = L at *
  clear hL
  go_wp2_with fail
  have HB := Lib.hid hb
  go_loopw [8, 9, 10, 11] (fun o i _ _ wr => ∃ us vs : List Ct, L = us ++ vs ∧ i = .int .i64 (us.length : Int) ∧ o = .string ⟨(42 :: catB (us.map (·.conc (val r)))).toArray⟩ ∧ (us.all fun z => z.knows concOp && z.fits (val r)) = true ∧ Below w.heap.size w wr ∧ TextsAt wr g L ∧ (catB (us.map (·.conc (val r)))).length ≤ 200 * us.length) (fun _ i _ _ _ => 2 - (intOf i).toNat)
  case atStart => exact ⟨[], L, rfl, rfl, rfl, rfl, hb, hg, by simp [catB]⟩
  case round =>
    obtain ⟨us, vs, hpv, rfl, rfl, hus, hbw, hgw, hcl⟩ := hrel
    have hul := HP.out
    have HU := Lib.hid hus
    clear hg hus
    cases vs with
    | nil =>
      have hpe : L = us := by simpa using hpv
      subst hpe
      clear hpv
      go_wp2_with fail
      go_ret2
      refine ⟨ret_con (by rw [HK.out]; exact HU.out) (by rw [HK.out, HU.out]; exact HT.out), hbw⟩
    | cons z vs =>
      have hz : z ∈ L := by rw [hpv]; simp
      have hcell := hgw us.length z (by rw [hpv]; simp)
      have hlt : ((us.length : Nat) : Int) < (L.length : Int) := by rw [hpv]; simp; omega
      have h2 : us.length ≤ 2 := by rw [hpv] at hul; simp at hul; omega
      have HPV := Lib.hid hpv
      have hnk := ih z hz
      have hsz := hwl z hz
      clear hwl
      clear hpv hul
      generalize hk : us.length = k at *
      have HK2 := Lib.hid hk
      clear hk
      cases hok : (z.knows concOp && z.fits (val r))
      · have HO := Lib.hid hok
        clear hok
        go_wp2_with fail
        refine (hnk _).mono ?_
        rintro e w2 ⟨rfl, hb2⟩
        rw [HO.out]
        go_wp2_with fail
        go_ret2
        have hf : (L.all fun z => z.knows concOp && z.fits (val r)) = false := by
          rw [Bool.eq_false_iff]
          intro h
          rw [List.all_eq_true] at h
          have h3 : (z.knows concOp && z.fits (val r)) = true := h z hz
          have h4 := HO.out
          rw [h4] at h3
          cases h3
        exact ⟨ret_con (by rw [HK.out]; exact hf) (by rw [HK.out, hf]; rfl), below_step hbw hb2⟩
      · have HO := Lib.hid hok
        clear hok
        go_wp2_with fail
        refine (hnk _).mono ?_
        rintro e w2 ⟨rfl, hb2⟩
        rw [HO.out]
        go_wp2_with fail
        go_roundw
        case rel =>
          refine ⟨us ++ [z], vs, by rw [HPV.out]; simp, by have := HK2.out; simp [this], ?_, ?_, below_step hbw hb2, hgw.grown hb2, ?_⟩
          · refine congrArg Value.string ?_
            apply ByteArray.ext; apply Array.ext'
            simp [orNone, catB_app, catB, Ct.text, ByteArray.data_append]
          · rw [List.all_append, HU.out, Bool.true_and]
            have := HO.out
            simpa using this
          · have h7 := HK2.out
            have h8 : (z.conc (val r)).bytes.length = (orNone true (z.conc (val r)).text).size := rfl
            rw [List.map_append, catB_app, List.length_append, List.length_append]
            simp only [List.map_cons, List.map_nil, catB, List.append_nil, List.length_cons, List.length_nil]
            omega
        case measure => have := HP.out; simp [intOf]; omega

theorem spec_con43 (r : ByteArray) (x : Ct) (ht : (Ct.n1 43 [] x).WF) (hlen : (Ct.n1 43 [] x).len ≤ 200) (ih : ∀ z ∈ (Ct.n1 43 [] x).parts, ConYes r z) : ConYes r (Ct.n1 43 [] x) := by
  have HK : Hid (((Ct.n1 43 [] x).knows concOp && (Ct.n1 43 [] x).fits (val r)) = (Ct.n1 43 [] x).parts.all fun z => z.knows concOp && z.fits (val r)) := by
    show _ = _
    rw [Ct.knows_parts, Ct.fits_parts]
    simp [Ct.op, Ct.ds, concOp, fitsD, Ct.parts, Bool.and_assoc, Bool.and_left_comm]
  have HT : Hid (((Ct.n1 43 [] x).conc (val r)).text = ⟨(43 :: catB ((Ct.n1 43 [] x).parts.map (·.conc (val r)))).toArray⟩) := by
    show _ = _
    unfold Ct.text
    rw [Ct.bytes_parts, Ct.conc_parts]
    rfl
  have hwl : ∀ z ∈ (Ct.n1 43 [] x).parts, (orNone true (z.conc (val r)).text).size ≤ 200 := fun z hz => by
    have h1 := Ct.conc_len (val r) z (Ct.parts_wf ht z hz)
    have h2 := Ct.len_part hz
    show (z.conc (val r)).text.size ≤ 200
    rw [Ct.text_size]; omega
  have HP := Lib.hid (Ct.parts_le (Ct.n1 43 [] x))
  have hx1 : (Ct.n1 43 [] x).text.extract 0 1 = ⟨#[43]⟩ := by
    apply ByteArray.ext; apply Array.ext'
    simp [Ct.text, Ct.bytes, ByteArray.data_extract]
  have hop := op_text (Ct.n1 43 [] x)
  have hb0 : ((bt (Ct.n1 43 [] x).text 0).toNat : Int) = 43 := by rw [hop]; rfl
  have hs0 : 0 < (Ct.n1 43 [] x).text.size := by rw [Ct.text_size]; exact (Ct.n1 43 [] x).len_pos
  have hs1 : 1 ≤ (Ct.n1 43 [] x).text.size := hs0
  clear hop
  intro w
  go_enter Tryz.func36, Tryz.ntmps36
  go_wp2_with fail
  refine (spec_l5Parts (Ct.n1 43 [] x) ht hlen w).mono ?_
  rintro e w1 ⟨⟨g, cap, rfl, hg⟩, hb⟩
  rw [show (Ct.n1 43 [] x).parts.length = (Ct.n1 43 [] x).parts.length from rfl]
  generalize hL : (Ct.n1 43 [] x).parts = L at *
  clear hL
  go_wp2_with fail
  have HB := Lib.hid hb
  go_loopw [8, 9, 10, 11] (fun o i _ _ wr => ∃ us vs : List Ct, L = us ++ vs ∧ i = .int .i64 (us.length : Int) ∧ o = .string ⟨(43 :: catB (us.map (·.conc (val r)))).toArray⟩ ∧ (us.all fun z => z.knows concOp && z.fits (val r)) = true ∧ Below w.heap.size w wr ∧ TextsAt wr g L ∧ (catB (us.map (·.conc (val r)))).length ≤ 200 * us.length) (fun _ i _ _ _ => 2 - (intOf i).toNat)
  case atStart => exact ⟨[], L, rfl, rfl, rfl, rfl, hb, hg, by simp [catB]⟩
  case round =>
    obtain ⟨us, vs, hpv, rfl, rfl, hus, hbw, hgw, hcl⟩ := hrel
    have hul := HP.out
    have HU := Lib.hid hus
    clear hg hus
    cases vs with
    | nil =>
      have hpe : L = us := by simpa using hpv
      subst hpe
      clear hpv
      go_wp2_with fail
      go_ret2
      refine ⟨ret_con (by rw [HK.out]; exact HU.out) (by rw [HK.out, HU.out]; exact HT.out), hbw⟩
    | cons z vs =>
      have hz : z ∈ L := by rw [hpv]; simp
      have hcell := hgw us.length z (by rw [hpv]; simp)
      have hlt : ((us.length : Nat) : Int) < (L.length : Int) := by rw [hpv]; simp; omega
      have h2 : us.length ≤ 2 := by rw [hpv] at hul; simp at hul; omega
      have HPV := Lib.hid hpv
      have hnk := ih z hz
      have hsz := hwl z hz
      clear hwl
      clear hpv hul
      generalize hk : us.length = k at *
      have HK2 := Lib.hid hk
      clear hk
      cases hok : (z.knows concOp && z.fits (val r))
      · have HO := Lib.hid hok
        clear hok
        go_wp2_with fail
        refine (hnk _).mono ?_
        rintro e w2 ⟨rfl, hb2⟩
        rw [HO.out]
        go_wp2_with fail
        go_ret2
        have hf : (L.all fun z => z.knows concOp && z.fits (val r)) = false := by
          rw [Bool.eq_false_iff]
          intro h
          rw [List.all_eq_true] at h
          have h3 : (z.knows concOp && z.fits (val r)) = true := h z hz
          have h4 := HO.out
          rw [h4] at h3
          cases h3
        exact ⟨ret_con (by rw [HK.out]; exact hf) (by rw [HK.out, hf]; rfl), below_step hbw hb2⟩
      · have HO := Lib.hid hok
        clear hok
        go_wp2_with fail
        refine (hnk _).mono ?_
        rintro e w2 ⟨rfl, hb2⟩
        rw [HO.out]
        go_wp2_with fail
        go_roundw
        case rel =>
          refine ⟨us ++ [z], vs, by rw [HPV.out]; simp, by have := HK2.out; simp [this], ?_, ?_, below_step hbw hb2, hgw.grown hb2, ?_⟩
          · refine congrArg Value.string ?_
            apply ByteArray.ext; apply Array.ext'
            simp [orNone, catB_app, catB, Ct.text, ByteArray.data_append]
          · rw [List.all_append, HU.out, Bool.true_and]
            have := HO.out
            simpa using this
          · have h7 := HK2.out
            have h8 : (z.conc (val r)).bytes.length = (orNone true (z.conc (val r)).text).size := rfl
            rw [List.map_append, catB_app, List.length_append, List.length_append]
            simp only [List.map_cons, List.map_nil, catB, List.append_nil, List.length_cons, List.length_nil]
            omega
        case measure => have := HP.out; simp [intOf]; omega

theorem spec_con59 (r : ByteArray) (x y : Ct) (ht : (Ct.n2 59 [] x y).WF) (hlen : (Ct.n2 59 [] x y).len ≤ 200) (ih : ∀ z ∈ (Ct.n2 59 [] x y).parts, ConYes r z) : ConYes r (Ct.n2 59 [] x y) := by
  have HK : Hid (((Ct.n2 59 [] x y).knows concOp && (Ct.n2 59 [] x y).fits (val r)) = (Ct.n2 59 [] x y).parts.all fun z => z.knows concOp && z.fits (val r)) := by
    show _ = _
    rw [Ct.knows_parts, Ct.fits_parts]
    simp [Ct.op, Ct.ds, concOp, fitsD, Ct.parts, Bool.and_assoc, Bool.and_left_comm]
  have HT : Hid (((Ct.n2 59 [] x y).conc (val r)).text = ⟨(59 :: catB ((Ct.n2 59 [] x y).parts.map (·.conc (val r)))).toArray⟩) := by
    show _ = _
    unfold Ct.text
    rw [Ct.bytes_parts, Ct.conc_parts]
    rfl
  have hwl : ∀ z ∈ (Ct.n2 59 [] x y).parts, (orNone true (z.conc (val r)).text).size ≤ 200 := fun z hz => by
    have h1 := Ct.conc_len (val r) z (Ct.parts_wf ht z hz)
    have h2 := Ct.len_part hz
    show (z.conc (val r)).text.size ≤ 200
    rw [Ct.text_size]; omega
  have HP := Lib.hid (Ct.parts_le (Ct.n2 59 [] x y))
  have hx1 : (Ct.n2 59 [] x y).text.extract 0 1 = ⟨#[59]⟩ := by
    apply ByteArray.ext; apply Array.ext'
    simp [Ct.text, Ct.bytes, ByteArray.data_extract]
  have hop := op_text (Ct.n2 59 [] x y)
  have hb0 : ((bt (Ct.n2 59 [] x y).text 0).toNat : Int) = 59 := by rw [hop]; rfl
  have hs0 : 0 < (Ct.n2 59 [] x y).text.size := by rw [Ct.text_size]; exact (Ct.n2 59 [] x y).len_pos
  have hs1 : 1 ≤ (Ct.n2 59 [] x y).text.size := hs0
  clear hop
  intro w
  go_enter Tryz.func36, Tryz.ntmps36
  go_wp2_with fail
  refine (spec_l5Parts (Ct.n2 59 [] x y) ht hlen w).mono ?_
  rintro e w1 ⟨⟨g, cap, rfl, hg⟩, hb⟩
  rw [show (Ct.n2 59 [] x y).parts.length = (Ct.n2 59 [] x y).parts.length from rfl]
  generalize hL : (Ct.n2 59 [] x y).parts = L at *
  clear hL
  go_wp2_with fail
  have HB := Lib.hid hb
  go_loopw [8, 9, 10, 11] (fun o i _ _ wr => ∃ us vs : List Ct, L = us ++ vs ∧ i = .int .i64 (us.length : Int) ∧ o = .string ⟨(59 :: catB (us.map (·.conc (val r)))).toArray⟩ ∧ (us.all fun z => z.knows concOp && z.fits (val r)) = true ∧ Below w.heap.size w wr ∧ TextsAt wr g L ∧ (catB (us.map (·.conc (val r)))).length ≤ 200 * us.length) (fun _ i _ _ _ => 2 - (intOf i).toNat)
  case atStart => exact ⟨[], L, rfl, rfl, rfl, rfl, hb, hg, by simp [catB]⟩
  case round =>
    obtain ⟨us, vs, hpv, rfl, rfl, hus, hbw, hgw, hcl⟩ := hrel
    have hul := HP.out
    have HU := Lib.hid hus
    clear hg hus
    cases vs with
    | nil =>
      have hpe : L = us := by simpa using hpv
      subst hpe
      clear hpv
      go_wp2_with fail
      go_ret2
      refine ⟨ret_con (by rw [HK.out]; exact HU.out) (by rw [HK.out, HU.out]; exact HT.out), hbw⟩
    | cons z vs =>
      have hz : z ∈ L := by rw [hpv]; simp
      have hcell := hgw us.length z (by rw [hpv]; simp)
      have hlt : ((us.length : Nat) : Int) < (L.length : Int) := by rw [hpv]; simp; omega
      have h2 : us.length ≤ 2 := by rw [hpv] at hul; simp at hul; omega
      have HPV := Lib.hid hpv
      have hnk := ih z hz
      have hsz := hwl z hz
      clear hwl
      clear hpv hul
      generalize hk : us.length = k at *
      have HK2 := Lib.hid hk
      clear hk
      cases hok : (z.knows concOp && z.fits (val r))
      · have HO := Lib.hid hok
        clear hok
        go_wp2_with fail
        refine (hnk _).mono ?_
        rintro e w2 ⟨rfl, hb2⟩
        rw [HO.out]
        go_wp2_with fail
        go_ret2
        have hf : (L.all fun z => z.knows concOp && z.fits (val r)) = false := by
          rw [Bool.eq_false_iff]
          intro h
          rw [List.all_eq_true] at h
          have h3 : (z.knows concOp && z.fits (val r)) = true := h z hz
          have h4 := HO.out
          rw [h4] at h3
          cases h3
        exact ⟨ret_con (by rw [HK.out]; exact hf) (by rw [HK.out, hf]; rfl), below_step hbw hb2⟩
      · have HO := Lib.hid hok
        clear hok
        go_wp2_with fail
        refine (hnk _).mono ?_
        rintro e w2 ⟨rfl, hb2⟩
        rw [HO.out]
        go_wp2_with fail
        go_roundw
        case rel =>
          refine ⟨us ++ [z], vs, by rw [HPV.out]; simp, by have := HK2.out; simp [this], ?_, ?_, below_step hbw hb2, hgw.grown hb2, ?_⟩
          · refine congrArg Value.string ?_
            apply ByteArray.ext; apply Array.ext'
            simp [orNone, catB_app, catB, Ct.text, ByteArray.data_append]
          · rw [List.all_append, HU.out, Bool.true_and]
            have := HO.out
            simpa using this
          · have h7 := HK2.out
            have h8 : (z.conc (val r)).bytes.length = (orNone true (z.conc (val r)).text).size := rfl
            rw [List.map_append, catB_app, List.length_append, List.length_append]
            simp only [List.map_cons, List.map_nil, catB, List.append_nil, List.length_cons, List.length_nil]
            omega
        case measure => have := HP.out; simp [intOf]; omega

theorem spec_con38 (r : ByteArray) (x y : Ct) (ht : (Ct.n2 38 [] x y).WF) (hlen : (Ct.n2 38 [] x y).len ≤ 200) (ih : ∀ z ∈ (Ct.n2 38 [] x y).parts, ConYes r z) : ConYes r (Ct.n2 38 [] x y) := by
  have HK : Hid (((Ct.n2 38 [] x y).knows concOp && (Ct.n2 38 [] x y).fits (val r)) = (Ct.n2 38 [] x y).parts.all fun z => z.knows concOp && z.fits (val r)) := by
    show _ = _
    rw [Ct.knows_parts, Ct.fits_parts]
    simp [Ct.op, Ct.ds, concOp, fitsD, Ct.parts, Bool.and_assoc, Bool.and_left_comm]
  have HT : Hid (((Ct.n2 38 [] x y).conc (val r)).text = ⟨(38 :: catB ((Ct.n2 38 [] x y).parts.map (·.conc (val r)))).toArray⟩) := by
    show _ = _
    unfold Ct.text
    rw [Ct.bytes_parts, Ct.conc_parts]
    rfl
  have hwl : ∀ z ∈ (Ct.n2 38 [] x y).parts, (orNone true (z.conc (val r)).text).size ≤ 200 := fun z hz => by
    have h1 := Ct.conc_len (val r) z (Ct.parts_wf ht z hz)
    have h2 := Ct.len_part hz
    show (z.conc (val r)).text.size ≤ 200
    rw [Ct.text_size]; omega
  have HP := Lib.hid (Ct.parts_le (Ct.n2 38 [] x y))
  have hx1 : (Ct.n2 38 [] x y).text.extract 0 1 = ⟨#[38]⟩ := by
    apply ByteArray.ext; apply Array.ext'
    simp [Ct.text, Ct.bytes, ByteArray.data_extract]
  have hop := op_text (Ct.n2 38 [] x y)
  have hb0 : ((bt (Ct.n2 38 [] x y).text 0).toNat : Int) = 38 := by rw [hop]; rfl
  have hs0 : 0 < (Ct.n2 38 [] x y).text.size := by rw [Ct.text_size]; exact (Ct.n2 38 [] x y).len_pos
  have hs1 : 1 ≤ (Ct.n2 38 [] x y).text.size := hs0
  clear hop
  intro w
  go_enter Tryz.func36, Tryz.ntmps36
  go_wp2_with fail
  refine (spec_l5Parts (Ct.n2 38 [] x y) ht hlen w).mono ?_
  rintro e w1 ⟨⟨g, cap, rfl, hg⟩, hb⟩
  rw [show (Ct.n2 38 [] x y).parts.length = (Ct.n2 38 [] x y).parts.length from rfl]
  generalize hL : (Ct.n2 38 [] x y).parts = L at *
  clear hL
  go_wp2_with fail
  have HB := Lib.hid hb
  go_loopw [8, 9, 10, 11] (fun o i _ _ wr => ∃ us vs : List Ct, L = us ++ vs ∧ i = .int .i64 (us.length : Int) ∧ o = .string ⟨(38 :: catB (us.map (·.conc (val r)))).toArray⟩ ∧ (us.all fun z => z.knows concOp && z.fits (val r)) = true ∧ Below w.heap.size w wr ∧ TextsAt wr g L ∧ (catB (us.map (·.conc (val r)))).length ≤ 200 * us.length) (fun _ i _ _ _ => 2 - (intOf i).toNat)
  case atStart => exact ⟨[], L, rfl, rfl, rfl, rfl, hb, hg, by simp [catB]⟩
  case round =>
    obtain ⟨us, vs, hpv, rfl, rfl, hus, hbw, hgw, hcl⟩ := hrel
    have hul := HP.out
    have HU := Lib.hid hus
    clear hg hus
    cases vs with
    | nil =>
      have hpe : L = us := by simpa using hpv
      subst hpe
      clear hpv
      go_wp2_with fail
      go_ret2
      refine ⟨ret_con (by rw [HK.out]; exact HU.out) (by rw [HK.out, HU.out]; exact HT.out), hbw⟩
    | cons z vs =>
      have hz : z ∈ L := by rw [hpv]; simp
      have hcell := hgw us.length z (by rw [hpv]; simp)
      have hlt : ((us.length : Nat) : Int) < (L.length : Int) := by rw [hpv]; simp; omega
      have h2 : us.length ≤ 2 := by rw [hpv] at hul; simp at hul; omega
      have HPV := Lib.hid hpv
      have hnk := ih z hz
      have hsz := hwl z hz
      clear hwl
      clear hpv hul
      generalize hk : us.length = k at *
      have HK2 := Lib.hid hk
      clear hk
      cases hok : (z.knows concOp && z.fits (val r))
      · have HO := Lib.hid hok
        clear hok
        go_wp2_with fail
        refine (hnk _).mono ?_
        rintro e w2 ⟨rfl, hb2⟩
        rw [HO.out]
        go_wp2_with fail
        go_ret2
        have hf : (L.all fun z => z.knows concOp && z.fits (val r)) = false := by
          rw [Bool.eq_false_iff]
          intro h
          rw [List.all_eq_true] at h
          have h3 : (z.knows concOp && z.fits (val r)) = true := h z hz
          have h4 := HO.out
          rw [h4] at h3
          cases h3
        exact ⟨ret_con (by rw [HK.out]; exact hf) (by rw [HK.out, hf]; rfl), below_step hbw hb2⟩
      · have HO := Lib.hid hok
        clear hok
        go_wp2_with fail
        refine (hnk _).mono ?_
        rintro e w2 ⟨rfl, hb2⟩
        rw [HO.out]
        go_wp2_with fail
        go_roundw
        case rel =>
          refine ⟨us ++ [z], vs, by rw [HPV.out]; simp, by have := HK2.out; simp [this], ?_, ?_, below_step hbw hb2, hgw.grown hb2, ?_⟩
          · refine congrArg Value.string ?_
            apply ByteArray.ext; apply Array.ext'
            simp [orNone, catB_app, catB, Ct.text, ByteArray.data_append]
          · rw [List.all_append, HU.out, Bool.true_and]
            have := HO.out
            simpa using this
          · have h7 := HK2.out
            have h8 : (z.conc (val r)).bytes.length = (orNone true (z.conc (val r)).text).size := rfl
            rw [List.map_append, catB_app, List.length_append, List.length_append]
            simp only [List.map_cons, List.map_nil, catB, List.append_nil, List.length_cons, List.length_nil]
            omega
        case measure => have := HP.out; simp [intOf]; omega

theorem spec_con124 (r : ByteArray) (x y : Ct) (ht : (Ct.n2 124 [] x y).WF) (hlen : (Ct.n2 124 [] x y).len ≤ 200) (ih : ∀ z ∈ (Ct.n2 124 [] x y).parts, ConYes r z) : ConYes r (Ct.n2 124 [] x y) := by
  have HK : Hid (((Ct.n2 124 [] x y).knows concOp && (Ct.n2 124 [] x y).fits (val r)) = (Ct.n2 124 [] x y).parts.all fun z => z.knows concOp && z.fits (val r)) := by
    show _ = _
    rw [Ct.knows_parts, Ct.fits_parts]
    simp [Ct.op, Ct.ds, concOp, fitsD, Ct.parts, Bool.and_assoc, Bool.and_left_comm]
  have HT : Hid (((Ct.n2 124 [] x y).conc (val r)).text = ⟨(124 :: catB ((Ct.n2 124 [] x y).parts.map (·.conc (val r)))).toArray⟩) := by
    show _ = _
    unfold Ct.text
    rw [Ct.bytes_parts, Ct.conc_parts]
    rfl
  have hwl : ∀ z ∈ (Ct.n2 124 [] x y).parts, (orNone true (z.conc (val r)).text).size ≤ 200 := fun z hz => by
    have h1 := Ct.conc_len (val r) z (Ct.parts_wf ht z hz)
    have h2 := Ct.len_part hz
    show (z.conc (val r)).text.size ≤ 200
    rw [Ct.text_size]; omega
  have HP := Lib.hid (Ct.parts_le (Ct.n2 124 [] x y))
  have hx1 : (Ct.n2 124 [] x y).text.extract 0 1 = ⟨#[124]⟩ := by
    apply ByteArray.ext; apply Array.ext'
    simp [Ct.text, Ct.bytes, ByteArray.data_extract]
  have hop := op_text (Ct.n2 124 [] x y)
  have hb0 : ((bt (Ct.n2 124 [] x y).text 0).toNat : Int) = 124 := by rw [hop]; rfl
  have hs0 : 0 < (Ct.n2 124 [] x y).text.size := by rw [Ct.text_size]; exact (Ct.n2 124 [] x y).len_pos
  have hs1 : 1 ≤ (Ct.n2 124 [] x y).text.size := hs0
  clear hop
  intro w
  go_enter Tryz.func36, Tryz.ntmps36
  go_wp2_with fail
  refine (spec_l5Parts (Ct.n2 124 [] x y) ht hlen w).mono ?_
  rintro e w1 ⟨⟨g, cap, rfl, hg⟩, hb⟩
  rw [show (Ct.n2 124 [] x y).parts.length = (Ct.n2 124 [] x y).parts.length from rfl]
  generalize hL : (Ct.n2 124 [] x y).parts = L at *
  clear hL
  go_wp2_with fail
  have HB := Lib.hid hb
  go_loopw [8, 9, 10, 11] (fun o i _ _ wr => ∃ us vs : List Ct, L = us ++ vs ∧ i = .int .i64 (us.length : Int) ∧ o = .string ⟨(124 :: catB (us.map (·.conc (val r)))).toArray⟩ ∧ (us.all fun z => z.knows concOp && z.fits (val r)) = true ∧ Below w.heap.size w wr ∧ TextsAt wr g L ∧ (catB (us.map (·.conc (val r)))).length ≤ 200 * us.length) (fun _ i _ _ _ => 2 - (intOf i).toNat)
  case atStart => exact ⟨[], L, rfl, rfl, rfl, rfl, hb, hg, by simp [catB]⟩
  case round =>
    obtain ⟨us, vs, hpv, rfl, rfl, hus, hbw, hgw, hcl⟩ := hrel
    have hul := HP.out
    have HU := Lib.hid hus
    clear hg hus
    cases vs with
    | nil =>
      have hpe : L = us := by simpa using hpv
      subst hpe
      clear hpv
      go_wp2_with fail
      go_ret2
      refine ⟨ret_con (by rw [HK.out]; exact HU.out) (by rw [HK.out, HU.out]; exact HT.out), hbw⟩
    | cons z vs =>
      have hz : z ∈ L := by rw [hpv]; simp
      have hcell := hgw us.length z (by rw [hpv]; simp)
      have hlt : ((us.length : Nat) : Int) < (L.length : Int) := by rw [hpv]; simp; omega
      have h2 : us.length ≤ 2 := by rw [hpv] at hul; simp at hul; omega
      have HPV := Lib.hid hpv
      have hnk := ih z hz
      have hsz := hwl z hz
      clear hwl
      clear hpv hul
      generalize hk : us.length = k at *
      have HK2 := Lib.hid hk
      clear hk
      cases hok : (z.knows concOp && z.fits (val r))
      · have HO := Lib.hid hok
        clear hok
        go_wp2_with fail
        refine (hnk _).mono ?_
        rintro e w2 ⟨rfl, hb2⟩
        rw [HO.out]
        go_wp2_with fail
        go_ret2
        have hf : (L.all fun z => z.knows concOp && z.fits (val r)) = false := by
          rw [Bool.eq_false_iff]
          intro h
          rw [List.all_eq_true] at h
          have h3 : (z.knows concOp && z.fits (val r)) = true := h z hz
          have h4 := HO.out
          rw [h4] at h3
          cases h3
        exact ⟨ret_con (by rw [HK.out]; exact hf) (by rw [HK.out, hf]; rfl), below_step hbw hb2⟩
      · have HO := Lib.hid hok
        clear hok
        go_wp2_with fail
        refine (hnk _).mono ?_
        rintro e w2 ⟨rfl, hb2⟩
        rw [HO.out]
        go_wp2_with fail
        go_roundw
        case rel =>
          refine ⟨us ++ [z], vs, by rw [HPV.out]; simp, by have := HK2.out; simp [this], ?_, ?_, below_step hbw hb2, hgw.grown hb2, ?_⟩
          · refine congrArg Value.string ?_
            apply ByteArray.ext; apply Array.ext'
            simp [orNone, catB_app, catB, Ct.text, ByteArray.data_append]
          · rw [List.all_append, HU.out, Bool.true_and]
            have := HO.out
            simpa using this
          · have h7 := HK2.out
            have h8 : (z.conc (val r)).bytes.length = (orNone true (z.conc (val r)).text).size := rfl
            rw [List.map_append, catB_app, List.length_append, List.length_append]
            simp only [List.map_cons, List.map_nil, catB, List.append_nil, List.length_cons, List.length_nil]
            omega
        case measure => have := HP.out; simp [intOf]; omega

theorem nil_of {l : List Int} (h : l.length = 0) : l = [] := List.eq_nil_of_length_eq_zero h
theorem spec_l11Concrete (r : ByteArray) (HR : Hid (okTxt 4 r = true)) : ∀ t : Ct, t.WF → t.len ≤ 200 → ConYes r t
  | .n0 o d, ht, hl => by
    rcases shp0 ht.1 with ⟨rfl | rfl | rfl, hn⟩ | ⟨rfl | rfl, hn⟩ | ⟨rfl | rfl, hn⟩
    · exact spec_con115 r d ht hn hl
    · exact spec_con97 r d ht hn hl
    · exact spec_con109 r d ht hn hl
    · exact spec_con33 r HR d ht hn hl
    · exact spec_con63 r d ht hn hl
    · exact spec_con65 r HR d ht hn hl
    · exact spec_con68 r d ht hn hl
  | .n1 o d x, ht, hl => by
    have ih := spec_l11Concrete r HR x ht.2 (by rw [Ct.len1] at hl; omega)
    have ihs : ∀ z ∈ (Ct.n1 o d x).parts, ConYes r z := by intro z hz; simp [Ct.parts] at hz; subst hz; exact ih
    rcases shp1 ht.1.1 with ⟨rfl, hn⟩ | ⟨rfl | rfl, hn⟩
    · exact spec_con119 r d x ht hl
    · obtain rfl := nil_of hn; exact spec_con42 r x ht hl ihs
    · obtain rfl := nil_of hn; exact spec_con43 r x ht hl ihs
  | .n2 o d x y, ht, hl => by
    have ih := spec_l11Concrete r HR x ht.2.1 (by rw [Ct.len2] at hl; omega)
    have ihy := spec_l11Concrete r HR y ht.2.2 (by rw [Ct.len2] at hl; omega)
    have ihs : ∀ z ∈ (Ct.n2 o d x y).parts, ConYes r z := by
      intro z hz; simp [Ct.parts] at hz
      rcases hz with rfl | rfl
      · exact ih
      · exact ihy
    rcases shp2 ht.1.1 with ⟨rfl | rfl | rfl, hn⟩ | ⟨rfl, hn⟩
    · obtain rfl := nil_of hn; exact spec_con59 r x y ht hl ihs
    · obtain rfl := nil_of hn; exact spec_con38 r x y ht hl ihs
    · obtain rfl := nil_of hn; exact spec_con124 r x y ht hl ihs
    · exact spec_con105 r d x y ht hl

theorem spec_ConcreteContract (r c : ByteArray) (hr : r.size ≤ 4611686018427387904) (hc : c.size ≤ 4611686018427387904) (w : World) (h : (okTxt 4 r && isFn (val r) && isCt c) = false) :
    Calls Tryz.prog 17 #[.string r, .string c] w fun e w' => e = .returned (.tuple #[.string ⟨#[]⟩, .bool false]) ∧ w = w' := by
  cases h1 : (okTxt 4 r && isFn (val r))
  · have H1 := Lib.hid h1; clear h1
    go_enter Tryz.func17, Tryz.ntmps17
    go_wp2_with fail
    refine (spec_IsFunction _ hr _).mono ?_
    rintro e w' ⟨rfl, rfl⟩
    rw [H1.out]
    go_wp2_with fail
    go_ret2
    exact ⟨rfl, rfl⟩
  · rw [h1, Bool.true_and] at h
    have H1 := Lib.hid h1; clear h1
    have H2 := Lib.hid h; clear h
    go_enter Tryz.func17, Tryz.ntmps17
    go_wp2_with fail
    refine (spec_IsFunction _ hr _).mono ?_
    rintro e w' ⟨rfl, rfl⟩
    rw [H1.out]
    go_wp2_with fail
    refine (spec_ContractValid _ _ hc).mono ?_
    rintro e w' ⟨rfl, rfl⟩
    rw [H2.out]
    go_wp2_with fail
    go_ret2
    exact ⟨rfl, rfl⟩
theorem spec_ConcreteContract_yes (r : ByteArray) (t : Ct) (hr : r.size ≤ 4611686018427387904) (ht : t.WF) (hlt : t.len ≤ 200) (H2 : Hid (isCt t.text = true)) (HR : Hid (okTxt 4 r = true)) (H1 : Hid ((okTxt 4 r && isFn (val r)) = true)) (w : World) :
    Calls Tryz.prog 17 #[.string r, .string t.text] w fun e w' => e = .returned (.tuple #[.string (orNone (t.knows concOp && t.fits (val r)) (t.conc (val r)).text), .bool (t.knows concOp && t.fits (val r))]) ∧ Below w.heap.size w w' := by
  have hc : t.text.size ≤ 4611686018427387904 := by rw [t.text_size]; omega
  go_enter Tryz.func17, Tryz.ntmps17
  go_wp2_with fail
  refine (spec_IsFunction _ hr _).mono ?_
  rintro e w' ⟨rfl, rfl⟩
  rw [H1.out]
  go_wp2_with fail
  refine (spec_ContractValid _ _ hc).mono ?_
  rintro e w' ⟨rfl, rfl⟩
  rw [H2.out]
  go_wp2_with fail
  refine (spec_l11Concrete r HR t ht hlt _).mono ?_
  rintro e w1 ⟨rfl, hb1⟩
  go_wp2_with fail
  go_ret2
  exact ⟨rfl, hb1⟩
end Go.Proofs.YtaeibhpkcikaaaaGreat
