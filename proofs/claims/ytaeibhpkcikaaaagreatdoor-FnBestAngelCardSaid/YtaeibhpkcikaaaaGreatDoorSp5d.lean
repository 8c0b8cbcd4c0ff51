/- Contracts: the reference's transformers of contracts (printed by mk5d.py). -/
import Derived.Test.YtaeibhpkcikaaaaGreatDoorSp5c
import Derived.Deep.RegionHeld3
import Derived.Test.YtaeibhpkcikaaaaGreatDoorGC
namespace Go.Proofs.YtaeibhpkcikaaaaGreatDoor
set_option linter.unusedVariables false
set_option linter.unusedSimpArgs false
open Go.RowKit Go.Shelf
set_option maxRecDepth 100000
set_option maxHeartbeats 1000000

theorem c_Assert {q : Int} (hq : C q) (w : World) : Calls Tryz.prog 100 #[.int .i64 q] w fun e w' => e = .returned (.string (txt 16 (assT q))) ∧ w = w' := by
  have HE : Hid (txt 16 (assertT q) = txt 16 (assT q)) := (assT_eq q).txt
  go_enter Tryz.func100, Tryz.ntmps100
  go_wp2_with fail
  go_loop [3, 4] (fun o i => ∃ k : Nat, k ≤ 16 ∧ i = .int .i64 k ∧ o = .string (txt k (assertT q))) (fun _ i => 16 - (intOf i).toNat)
  case atStart => exact ⟨0, by omega, rfl, rfl⟩
  case round =>
    obtain ⟨k, hk, rfl, rfl⟩ := hrel
    by_cases hlt : k < 16
    · have hc : C (bits .and .i64 q (k : Int)) := C.and hq (c_nat hlt)
      go_wp2_with fail
      refine (spec_l2Digit _ _ hc.1 hc.2).mono ?_
      rintro e w' ⟨rfl, rfl⟩
      go_wp2_with fail
      go_round
      case rel => exact ⟨k + 1, by omega, by go_num, congrArg Value.string (txt_succ k (assertT q))⟩
      case measure => simp [intOf]; omega
    · obtain rfl : k = 16 := by omega
      go_wp2_with fail
      go_ret
      rw [HE.out]
      exact ⟨rfl, rfl⟩
theorem spec_l3Meet (t u : ByteArray) (w : World) (H : Hid (okTxt 16 t = true)) (H2 : Hid (okTxt 16 u = true)) : Calls Tryz.prog 104 #[.string t, .string u] w fun e w' => e = .returned (.string (txt 16 (meetT (val t) (val u)))) ∧ w = w' := by
  go_enter Tryz.func104, Tryz.ntmps104
  go_wp2_with fail
  go_loop [5, 6] (fun o i => ∃ k : Nat, k ≤ 16 ∧ i = .int .i64 k ∧ o = .string (txt k (meetT (val t) (val u)))) (fun _ i => 16 - (intOf i).toNat)
  case atStart => exact ⟨0, by omega, rfl, rfl⟩
  case round =>
    obtain ⟨k, hk, rfl, rfl⟩ := hrel
    by_cases hlt : k < 16
    · go_wp2_with fail
      refine (spec_l3Value _ _ _ H hlt).mono ?_
      rintro e w' ⟨rfl, rfl⟩
      go_wp2_with fail
      refine (spec_l3Value _ _ _ H2 hlt).mono ?_
      rintro e w' ⟨rfl, rfl⟩
      go_wp2_with fail
      refine (spec_l2Digit _ _ (C.and (val_ok _ _) (val_ok _ _)).1 (C.and (val_ok _ _) (val_ok _ _)).2).mono ?_
      rintro e w' ⟨rfl, rfl⟩
      go_wp2_with fail
      go_round
      case rel => exact ⟨k + 1, by omega, by go_num, congrArg Value.string (txt_succ k (meetT (val t) (val u)))⟩
      case measure => simp [intOf]; omega
    · obtain rfl : k = 16 := by omega
      go_wp2_with fail
      go_ret
      exact ⟨rfl, rfl⟩
theorem c_Then {t u : Nat → Int} (ht : Mon t) (hu : Mon u) (w : World) : Calls Tryz.prog 103 #[.string (txt 16 t), .string (txt 16 u)] w fun e w' => e = .returned (.string (txt 16 (thenT t u))) ∧ w = w' := by
  have h := spec_l3Then (txt 16 t) (txt 16 u) w (hid_txt ht.ok) (hid_txt hu.ok)
  rwa [((eq16_txt ht.ok).then (eq16_txt hu.ok) hu.ok).txt] at h
theorem c_Meet {t u : Nat → Int} (ht : Mon t) (hu : Mon u) (w : World) : Calls Tryz.prog 104 #[.string (txt 16 t), .string (txt 16 u)] w fun e w' => e = .returned (.string (txt 16 (meetT t u))) ∧ w = w' := by
  have h := spec_l3Meet (txt 16 t) (txt 16 u) w (hid_txt ht.ok) (hid_txt hu.ok)
  rwa [((eq16_txt ht.ok).meet (eq16_txt hu.ok)).txt] at h
theorem c_Join {t u : Nat → Int} (ht : Mon t) (hu : Mon u) (w : World) : Calls Tryz.prog 105 #[.string (txt 16 t), .string (txt 16 u)] w fun e w' => e = .returned (.string (txt 16 (joinT t u))) ∧ w = w' := by
  have h := spec_l3Join (txt 16 t) (txt 16 u) w (hid_txt ht.ok) (hid_txt hu.ok)
  rwa [((eq16_txt ht.ok).join (eq16_txt hu.ok)).txt] at h
theorem c_Dual {t : Nat → Int} (ht : Mon t) (w : World) : Calls Tryz.prog 101 #[.string (txt 16 t)] w fun e w' => e = .returned (.string (txt 16 (dualT t))) ∧ w = w' := by
  have h := spec_l3Dual (txt 16 t) w (hid_txt ht.ok)
  rwa [(eq16_txt ht.ok).dual.txt] at h
theorem notp_dif {a q : Int} (ha : C a) (hq : C q) : bits .and .i64 (notp q) a = bits .andNot .i64 a q := C.ext (C.and (notp_ok hq) ha) (C.dif ha hq) fun i hi => by
  rw [has_and (C.fit16 (notp_ok hq)) ha.fit16, has_notp hq hi, has_dif ha.fit16 hq.fit16, Bool.and_comm]
theorem dual_ass {q : Int} (hq : C q) : Eq16 (dualT (assT q)) (assuT q) := fun k hk => by
  have hn := notp_ok (c_nat hk)
  refine C.ext (dualT_ok (assT_ok hq) k) (assuT_ok hq k) fun i hi => ?_
  show has (notp (assT q (notp (k : Int)).toNat)) i = has (assuT q k) i
  rw [has_notp (assT_ok hq _) hi, assT_at (lt16 hn), toNat_cast hn, assuT_at hk, has_and hq.fit16 hn.fit16, has_or (C.fit16 (c_nat hk)) (C.fit16 (notp_ok hq)), has_notp (c_nat hk) hi, has_notp hq hi]
  cases has q i <;> cases has (k : Int) i <;> rfl
theorem join_ite {q : Int} {t u : Nat → Int} (hq : C q) (ht : Mon t) (hu : Mon u) : Eq16 (joinT (thenT (assT q) t) (thenT (assT (notp q)) u)) (iteT q t u) := fun k hk => by
  show bits .or .i64 (assT q (t k).toNat) (assT (notp q) (u k).toNat) = bits .or .i64 (bits .and .i64 q (t k)) (bits .andNot .i64 (u k) q)
  rw [assT_at (lt16 (ht.ok k)), assT_at (lt16 (hu.ok k)), toNat_cast (ht.ok k), toNat_cast (hu.ok k), notp_dif (hu.ok k) hq]
/-- the four digits of a relation as they stand in a contract's text -/
theorem rel_ext {o : UInt8} {d : List Int} (ht : (Ct.n0 o d).WF) (hn : d.length = 4) : okTxt 4 ((Ct.n0 o d).text.extract 1 5) = true ∧ ∀ k, k < 4 → val ((Ct.n0 o d).text.extract 1 5) k = dsF d k := by
  have hl := lies_text (Ct.n0 o d)
  have hs : (Ct.n0 o d).text.size = 5 := by rw [Ct.text_size, Ct.len0, hn]
  have hd := hl.digOk ht
  rw [show (Ct.n0 o d).ds.length = 4 from hn, Nat.zero_add] at hd
  have h1 := digOk_ext (c := (Ct.n0 o d).text) (a := 1) (n := 4) (by omega)
  rw [hd] at h1
  refine ⟨h1, fun k hk => ?_⟩
  rw [okTxt_val h1 k hk, bt_extract _ 1 5 k (by omega)]
  have := hl.hx ht k (by rw [show (Ct.n0 o d).ds.length = 4 from hn]; exact hk)
  rw [Nat.zero_add] at this
  exact this
/-- the first digit -/
theorem dig_ext {t : Ct} (ht : t.WF) (hn : t.ds.length = 1) : hx (bt t.text 1) = dsF t.ds 0 := by
  have := (lies_text t).hx ht 0 (by omega)
  exact this

/-- the contract of a contract's transformer -/
def TrYes (t : Ct) : Prop := ∀ w : World, Calls Tryz.prog 74 #[.string t.text] w fun e w' => e = .returned (.string (txt 16 t.sem)) ∧ Below w.heap.size w w'

theorem spec_tr115 (d : List Int) (ht : (Ct.n0 115 d).WF) (hn : d.length = 0) (hlen : (Ct.n0 115 d).len ≤ 200) : TrYes (.n0 115 d) := by
  have HS : Hid ((Ct.n0 115 d).sem = skipT) := rfl
  have hop := op_text (Ct.n0 115 d)
  have hb0 : ((bt (Ct.n0 115 d).text 0).toNat : Int) = 115 := by rw [hop]; rfl
  have hs0 : 0 < (Ct.n0 115 d).text.size := by rw [Ct.text_size]; exact (Ct.n0 115 d).len_pos
  have hs1 : 1 ≤ (Ct.n0 115 d).text.size := by rw [Ct.text_size]; have := (Ct.n0 115 d).len_head; rw [show (Ct.n0 115 d).ds.length = 0 from hn] at this; exact this
  clear hop
  intro w
  go_enter Tryz.func74, Tryz.ntmps74
  go_wp2_with fail
  refine (spec_l5Parts (Ct.n0 115 d) ht hlen w).mono ?_
  rintro e w1 ⟨⟨g, cap, rfl, hg⟩, hb⟩
  go_wp2_with fail
  refine (c_Assert C.all _).mono ?_
  rintro e w' ⟨rfl, rfl⟩
  go_wp2_with fail
  go_ret
  rw [HS.out, show txt 16 (assT 15) = txt 16 skipT from ((assT_eq 15).symm.trans ass_all).txt]
  exact ⟨rfl, hb⟩

theorem spec_tr97 (d : List Int) (ht : (Ct.n0 97 d).WF) (hn : d.length = 0) (hlen : (Ct.n0 97 d).len ≤ 200) : TrYes (.n0 97 d) := by
  have HS : Hid ((Ct.n0 97 d).sem = assT 0) := rfl
  have hop := op_text (Ct.n0 97 d)
  have hb0 : ((bt (Ct.n0 97 d).text 0).toNat : Int) = 97 := by rw [hop]; rfl
  have hs0 : 0 < (Ct.n0 97 d).text.size := by rw [Ct.text_size]; exact (Ct.n0 97 d).len_pos
  have hs1 : 1 ≤ (Ct.n0 97 d).text.size := by rw [Ct.text_size]; have := (Ct.n0 97 d).len_head; rw [show (Ct.n0 97 d).ds.length = 0 from hn] at this; exact this
  clear hop
  intro w
  go_enter Tryz.func74, Tryz.ntmps74
  go_wp2_with fail
  refine (spec_l5Parts (Ct.n0 97 d) ht hlen w).mono ?_
  rintro e w1 ⟨⟨g, cap, rfl, hg⟩, hb⟩
  go_wp2_with fail
  refine (c_Assert C.zero _).mono ?_
  rintro e w' ⟨rfl, rfl⟩
  go_wp2_with fail
  go_ret
  rw [HS.out]
  exact ⟨rfl, hb⟩

theorem spec_tr109 (d : List Int) (ht : (Ct.n0 109 d).WF) (hn : d.length = 0) (hlen : (Ct.n0 109 d).len ≤ 200) : TrYes (.n0 109 d) := by
  have HS : Hid ((Ct.n0 109 d).sem = assuT 0) := rfl
  have hop := op_text (Ct.n0 109 d)
  have hb0 : ((bt (Ct.n0 109 d).text 0).toNat : Int) = 109 := by rw [hop]; rfl
  have hs0 : 0 < (Ct.n0 109 d).text.size := by rw [Ct.text_size]; exact (Ct.n0 109 d).len_pos
  have hs1 : 1 ≤ (Ct.n0 109 d).text.size := by rw [Ct.text_size]; have := (Ct.n0 109 d).len_head; rw [show (Ct.n0 109 d).ds.length = 0 from hn] at this; exact this
  clear hop
  intro w
  go_enter Tryz.func74, Tryz.ntmps74
  go_wp2_with fail
  refine (spec_l5Parts (Ct.n0 109 d) ht hlen w).mono ?_
  rintro e w1 ⟨⟨g, cap, rfl, hg⟩, hb⟩
  go_wp2_with fail
  refine (c_Assert C.zero _).mono ?_
  rintro e w' ⟨rfl, rfl⟩
  go_wp2_with fail
  refine (c_Dual (Mon.ass C.zero) _).mono ?_
  rintro e w' ⟨rfl, rfl⟩
  go_wp2_with fail
  go_ret
  rw [HS.out, (dual_ass C.zero).txt]
  exact ⟨rfl, hb⟩

theorem spec_tr33 (d : List Int) (ht : (Ct.n0 33 d).WF) (hn : d.length = 1) (hlen : (Ct.n0 33 d).len ≤ 200) : TrYes (.n0 33 d) := by
  have HS : Hid ((Ct.n0 33 d).sem = assT (dsF d 0)) := rfl
  have HD : Hid (hx (bt (Ct.n0 33 d).text 1) = dsF d 0) := dig_ext ht hn
  have HC : C (dsF d 0) := dsF_c ht.2 0
  have hop := op_text (Ct.n0 33 d)
  have hb0 : ((bt (Ct.n0 33 d).text 0).toNat : Int) = 33 := by rw [hop]; rfl
  have hs0 : 0 < (Ct.n0 33 d).text.size := by rw [Ct.text_size]; exact (Ct.n0 33 d).len_pos
  have hs1 : 2 ≤ (Ct.n0 33 d).text.size := by rw [Ct.text_size]; have := (Ct.n0 33 d).len_head; rw [show (Ct.n0 33 d).ds.length = 1 from hn] at this; exact this
  clear hop
  intro w
  go_enter Tryz.func74, Tryz.ntmps74
  go_wp2_with fail
  refine (spec_l5Parts (Ct.n0 33 d) ht hlen w).mono ?_
  rintro e w1 ⟨⟨g, cap, rfl, hg⟩, hb⟩
  go_wp2_with fail
  refine (spec_l2Hex _ _).mono ?_
  rintro e w' ⟨rfl, rfl⟩
  go_wp2_with fail
  rw [HD.out]
  refine (c_Assert HC _).mono ?_
  rintro e w' ⟨rfl, rfl⟩
  go_wp2_with fail
  go_ret
  rw [HS.out]
  exact ⟨rfl, hb⟩

theorem spec_tr63 (d : List Int) (ht : (Ct.n0 63 d).WF) (hn : d.length = 1) (hlen : (Ct.n0 63 d).len ≤ 200) : TrYes (.n0 63 d) := by
  have HS : Hid ((Ct.n0 63 d).sem = assuT (dsF d 0)) := rfl
  have HD : Hid (hx (bt (Ct.n0 63 d).text 1) = dsF d 0) := dig_ext ht hn
  have HC : C (dsF d 0) := dsF_c ht.2 0
  have hop := op_text (Ct.n0 63 d)
  have hb0 : ((bt (Ct.n0 63 d).text 0).toNat : Int) = 63 := by rw [hop]; rfl
  have hs0 : 0 < (Ct.n0 63 d).text.size := by rw [Ct.text_size]; exact (Ct.n0 63 d).len_pos
  have hs1 : 2 ≤ (Ct.n0 63 d).text.size := by rw [Ct.text_size]; have := (Ct.n0 63 d).len_head; rw [show (Ct.n0 63 d).ds.length = 1 from hn] at this; exact this
  clear hop
  intro w
  go_enter Tryz.func74, Tryz.ntmps74
  go_wp2_with fail
  refine (spec_l5Parts (Ct.n0 63 d) ht hlen w).mono ?_
  rintro e w1 ⟨⟨g, cap, rfl, hg⟩, hb⟩
  go_wp2_with fail
  refine (spec_l2Hex _ _).mono ?_
  rintro e w' ⟨rfl, rfl⟩
  go_wp2_with fail
  rw [HD.out]
  refine (c_Assert HC _).mono ?_
  rintro e w' ⟨rfl, rfl⟩
  go_wp2_with fail
  refine (c_Dual (Mon.ass HC) _).mono ?_
  rintro e w' ⟨rfl, rfl⟩
  go_wp2_with fail
  go_ret
  rw [HS.out, (dual_ass HC).txt]
  exact ⟨rfl, hb⟩

theorem spec_tr65 (d : List Int) (ht : (Ct.n0 65 d).WF) (hn : d.length = 4) (hlen : (Ct.n0 65 d).len ≤ 200) : TrYes (.n0 65 d) := by
  have HS : Hid ((Ct.n0 65 d).sem = angelT (dsF d)) := rfl
  have hre := rel_ext ht hn
  have HR := Lib.hid hre.1
  have HV := Lib.hid (eq16_angel hre.2)
  have HC : Cond (dsF d) := dsF_c ht.2
  clear hre
  have hop := op_text (Ct.n0 65 d)
  have hb0 : ((bt (Ct.n0 65 d).text 0).toNat : Int) = 65 := by rw [hop]; rfl
  have hs0 : 0 < (Ct.n0 65 d).text.size := by rw [Ct.text_size]; exact (Ct.n0 65 d).len_pos
  have hs1 : 5 ≤ (Ct.n0 65 d).text.size := by rw [Ct.text_size]; have := (Ct.n0 65 d).len_head; rw [show (Ct.n0 65 d).ds.length = 4 from hn] at this; exact this
  clear hop
  intro w
  go_enter Tryz.func74, Tryz.ntmps74
  go_wp2_with fail
  refine (spec_l5Parts (Ct.n0 65 d) ht hlen w).mono ?_
  rintro e w1 ⟨⟨g, cap, rfl, hg⟩, hb⟩
  go_wp2_with fail
  refine (spec_l3Angel _ _ HR).mono ?_
  rintro e w' ⟨rfl, rfl⟩
  go_wp2_with fail
  rw [HV.out.txt]
  go_ret
  rw [HS.out]
  exact ⟨rfl, hb⟩

theorem spec_tr68 (d : List Int) (ht : (Ct.n0 68 d).WF) (hn : d.length = 4) (hlen : (Ct.n0 68 d).len ≤ 200) : TrYes (.n0 68 d) := by
  have HS : Hid ((Ct.n0 68 d).sem = demonT (dsF d)) := rfl
  have hre := rel_ext ht hn
  have HR := Lib.hid hre.1
  have HV := Lib.hid (eq16_angel hre.2)
  have HC : Cond (dsF d) := dsF_c ht.2
  clear hre
  have hop := op_text (Ct.n0 68 d)
  have hb0 : ((bt (Ct.n0 68 d).text 0).toNat : Int) = 68 := by rw [hop]; rfl
  have hs0 : 0 < (Ct.n0 68 d).text.size := by rw [Ct.text_size]; exact (Ct.n0 68 d).len_pos
  have hs1 : 5 ≤ (Ct.n0 68 d).text.size := by rw [Ct.text_size]; have := (Ct.n0 68 d).len_head; rw [show (Ct.n0 68 d).ds.length = 4 from hn] at this; exact this
  clear hop
  intro w
  go_enter Tryz.func74, Tryz.ntmps74
  go_wp2_with fail
  refine (spec_l5Parts (Ct.n0 68 d) ht hlen w).mono ?_
  rintro e w1 ⟨⟨g, cap, rfl, hg⟩, hb⟩
  go_wp2_with fail
  refine (spec_l3Angel _ _ HR).mono ?_
  rintro e w' ⟨rfl, rfl⟩
  go_wp2_with fail
  rw [HV.out.txt]
  refine (c_Dual (Mon.angel HC) _).mono ?_
  rintro e w' ⟨rfl, rfl⟩
  go_wp2_with fail
  go_ret
  rw [HS.out, (dual_angel HC).txt]
  exact ⟨rfl, hb⟩

theorem spec_tr119 (d : List Int) (x : Ct) (ht : (Ct.n1 119 d x).WF) (hn : d.length = 1) (hlen : (Ct.n1 119 d x).len ≤ 200) (ih : TrYes x) : TrYes (Ct.n1 119 d x) := by
  have HS : Hid (txt 16 (Ct.n1 119 d x).sem = txt 16 fun q => lfp fun y => turnV 119 (dsF d 0) (x.sem y.toNat) q) := txt_ext fun q hq => sem_loop 119 d x q hq
  have HM := Ct.mon x ht.2
  have hLoop := spec_l5Loop 119 d x ht x.sem HM
  have hop := op_text (Ct.n1 119 d x)
  have hb0 : ((bt (Ct.n1 119 d x).text 0).toNat : Int) = 119 := by rw [hop]; rfl
  have hs0 : 0 < (Ct.n1 119 d x).text.size := by rw [Ct.text_size]; exact (Ct.n1 119 d x).len_pos
  clear hop
  intro w
  go_enter Tryz.func74, Tryz.ntmps74
  go_wp2_with fail
  refine (spec_l5Parts (Ct.n1 119 d x) ht hlen w).mono ?_
  rintro e w1 ⟨⟨g, cap, rfl, hg⟩, hb⟩
  have h0 := hg 0 x rfl
  have e9 : (Ct.n1 119 d x).parts.length = 1 := rfl
  rw [e9]
  go_wp2_with fail
  refine (ih _).mono ?_
  rintro e w2 ⟨rfl, hb2⟩
  go_wp2_with fail
  refine (hLoop _).mono ?_
  rintro e w' ⟨rfl, rfl⟩
  go_wp2_with fail
  go_ret
  rw [HS.out]
  exact ⟨rfl, below_step hb hb2⟩

theorem spec_tr42 (d : List Int) (x : Ct) (ht : (Ct.n1 42 d x).WF) (hn : d.length = 0) (hlen : (Ct.n1 42 d x).len ≤ 200) (ih : TrYes x) : TrYes (Ct.n1 42 d x) := by
  have HS : Hid (txt 16 (Ct.n1 42 d x).sem = txt 16 fun q => lfp fun y => turnV 42 (dsF d 0) (x.sem y.toNat) q) := txt_ext fun q hq => sem_loop 42 d x q hq
  have HM := Ct.mon x ht.2
  have hLoop := spec_l5Loop 42 d x ht x.sem HM
  have hop := op_text (Ct.n1 42 d x)
  have hb0 : ((bt (Ct.n1 42 d x).text 0).toNat : Int) = 42 := by rw [hop]; rfl
  have hs0 : 0 < (Ct.n1 42 d x).text.size := by rw [Ct.text_size]; exact (Ct.n1 42 d x).len_pos
  clear hop
  intro w
  go_enter Tryz.func74, Tryz.ntmps74
  go_wp2_with fail
  refine (spec_l5Parts (Ct.n1 42 d x) ht hlen w).mono ?_
  rintro e w1 ⟨⟨g, cap, rfl, hg⟩, hb⟩
  have h0 := hg 0 x rfl
  have e9 : (Ct.n1 42 d x).parts.length = 1 := rfl
  rw [e9]
  go_wp2_with fail
  refine (ih _).mono ?_
  rintro e w2 ⟨rfl, hb2⟩
  go_wp2_with fail
  refine (hLoop _).mono ?_
  rintro e w' ⟨rfl, rfl⟩
  go_wp2_with fail
  go_ret
  rw [HS.out]
  exact ⟨rfl, below_step hb hb2⟩

theorem spec_tr43 (d : List Int) (x : Ct) (ht : (Ct.n1 43 d x).WF) (hn : d.length = 0) (hlen : (Ct.n1 43 d x).len ≤ 200) (ih : TrYes x) : TrYes (Ct.n1 43 d x) := by
  have HS : Hid (txt 16 (Ct.n1 43 d x).sem = txt 16 fun q => lfp fun y => turnV 43 (dsF d 0) (x.sem y.toNat) q) := txt_ext fun q hq => sem_loop 43 d x q hq
  have HM := Ct.mon x ht.2
  have hLoop := spec_l5Loop 43 d x ht x.sem HM
  have hop := op_text (Ct.n1 43 d x)
  have hb0 : ((bt (Ct.n1 43 d x).text 0).toNat : Int) = 43 := by rw [hop]; rfl
  have hs0 : 0 < (Ct.n1 43 d x).text.size := by rw [Ct.text_size]; exact (Ct.n1 43 d x).len_pos
  clear hop
  intro w
  go_enter Tryz.func74, Tryz.ntmps74
  go_wp2_with fail
  refine (spec_l5Parts (Ct.n1 43 d x) ht hlen w).mono ?_
  rintro e w1 ⟨⟨g, cap, rfl, hg⟩, hb⟩
  have h0 := hg 0 x rfl
  have e9 : (Ct.n1 43 d x).parts.length = 1 := rfl
  rw [e9]
  go_wp2_with fail
  refine (ih _).mono ?_
  rintro e w2 ⟨rfl, hb2⟩
  go_wp2_with fail
  refine (hLoop _).mono ?_
  rintro e w' ⟨rfl, rfl⟩
  go_wp2_with fail
  go_ret
  rw [HS.out]
  exact ⟨rfl, below_step hb hb2⟩

theorem spec_tr59 (d : List Int) (x y : Ct) (ht : (Ct.n2 59 d x y).WF) (hn : d.length = 0) (hlen : (Ct.n2 59 d x y).len ≤ 200) (ih : TrYes x) (ihy : TrYes y) : TrYes (Ct.n2 59 d x y) := by
  have HS : Hid ((Ct.n2 59 d x y).sem = thenT x.sem y.sem) := rfl
  have MX := Ct.mon x ht.2.1
  have MY := Ct.mon y ht.2.2
  have hop := op_text (Ct.n2 59 d x y)
  have hb0 : ((bt (Ct.n2 59 d x y).text 0).toNat : Int) = 59 := by rw [hop]; rfl
  have hs0 : 0 < (Ct.n2 59 d x y).text.size := by rw [Ct.text_size]; exact (Ct.n2 59 d x y).len_pos
  clear hop
  intro w
  go_enter Tryz.func74, Tryz.ntmps74
  go_wp2_with fail
  refine (spec_l5Parts (Ct.n2 59 d x y) ht hlen w).mono ?_
  rintro e w1 ⟨⟨g, cap, rfl, hg⟩, hb⟩
  have h0 := hg 0 x rfl
  have h1 := hg 1 y rfl
  have e9 : (Ct.n2 59 d x y).parts.length = 2 := rfl
  rw [e9]
  go_wp2_with fail
  refine wp_region_held_drew (S := fun W => W.cell? ⟨g, 0, none⟩ = some (.string x.text) ∧ W.cell? ⟨g, 1, none⟩ = some (.string y.text)) (by kernel_rfl) ?_ (fun hS => ?_)
  · exact ⟨h0, h1⟩
  refine wpAnyH_take (i := 0) (v := .slice (some ⟨g, 0, none⟩) 2 cap) rfl (by kernel_rfl) (by kernel_rfl) (by kernel_rfl) (fun _ _ _ h => h) (Or.inl ⟨by rfl, ?_⟩) hS ?_
  · intro w hSw
    go_simp
  simp only [Act.put, List.getElem_toArray, List.getElem_cons_succ, List.getElem_cons_zero, List.setIfInBounds_toArray, List.set_cons_zero, List.set_cons_succ]
  refine wpAnyH_take (i := 1) (v := .pointer (some ⟨g, 0, none⟩)) rfl (by kernel_rfl) (by kernel_rfl) (by kernel_rfl) (fun _ _ _ h => h) (Or.inl ⟨by rfl, ?_⟩) hS ?_
  · intro w hSw
    go_simp
  simp only [Act.put, List.getElem_toArray, List.getElem_cons_succ, List.getElem_cons_zero, List.setIfInBounds_toArray, List.set_cons_zero, List.set_cons_succ]
  refine wpAnyH_take (i := 2) (v := .string x.text) rfl (by kernel_rfl) (by kernel_rfl) (by kernel_rfl) (fun _ _ _ h => h) (Or.inl ⟨by rfl, ?_⟩) hS ?_
  · rintro w ⟨c1, c2⟩
    go_simp
  simp only [Act.put, List.getElem_toArray, List.getElem_cons_succ, List.getElem_cons_zero, List.setIfInBounds_toArray, List.set_cons_zero, List.set_cons_succ]
  refine wpAnyH_take (i := 4) (v := .slice (some ⟨g, 0, none⟩) 2 cap) rfl (by kernel_rfl) (by kernel_rfl) (by kernel_rfl) (fun _ _ _ h => h) (Or.inl ⟨by rfl, ?_⟩) hS ?_
  · intro w hSw
    go_simp
  simp only [Act.put, List.getElem_toArray, List.getElem_cons_succ, List.getElem_cons_zero, List.setIfInBounds_toArray, List.set_cons_zero, List.set_cons_succ]
  refine wpAnyH_take (i := 5) (v := .pointer (some ⟨g, 1, none⟩)) rfl (by kernel_rfl) (by kernel_rfl) (by kernel_rfl) (fun _ _ _ h => h) (Or.inl ⟨by rfl, ?_⟩) hS ?_
  · intro w hSw
    go_simp
  simp only [Act.put, List.getElem_toArray, List.getElem_cons_succ, List.getElem_cons_zero, List.setIfInBounds_toArray, List.set_cons_zero, List.set_cons_succ]
  refine wpAnyH_take (i := 6) (v := .string y.text) rfl (by kernel_rfl) (by kernel_rfl) (by kernel_rfl) (fun _ _ _ h => h) (Or.inl ⟨by rfl, ?_⟩) hS ?_
  · rintro w ⟨c1, c2⟩
    go_simp
  simp only [Act.put, List.getElem_toArray, List.getElem_cons_succ, List.getElem_cons_zero, List.setIfInBounds_toArray, List.set_cons_zero, List.set_cons_succ]
  refine wpAnyH_ready (rs := [3]) (by kernel_rfl) (by simp) ?_
  refine AllReadyH.cons rfl (fun K hK => ?_) AllReadyH.nil
  rw [if_pos (by rfl)]
  refine op_call 74 _ _ rfl (enters_of Tryz.func74 (by kernel_rfl) rfl) _ (ih _) rfl ?_
  rintro e w3 ⟨rfl, hb3⟩
  refine ⟨_, rfl, ?_⟩
  refine hK.out _ _ ?_ (fun hS1 => ?_)
  · exact ⟨cell_grown hS.1 hb3, cell_grown hS.2 hb3⟩
  clear hK K
  replace hS := hS1
  clear hS1
  simp only [Act.put, List.getElem_toArray, List.getElem_cons_succ, List.getElem_cons_zero, List.setIfInBounds_toArray, List.set_cons_zero, List.set_cons_succ]
  refine wpAnyH_ready (rs := [7]) (by kernel_rfl) (by simp) ?_
  refine AllReadyH.cons rfl (fun K hK => ?_) AllReadyH.nil
  rw [if_pos (by rfl)]
  refine op_call 74 _ _ rfl (enters_of Tryz.func74 (by kernel_rfl) rfl) _ (ihy _) rfl ?_
  rintro e w4 ⟨rfl, hb4⟩
  refine ⟨_, rfl, ?_⟩
  refine hK.out _ _ ?_ (fun hS1 => ?_)
  · exact ⟨cell_grown hS.1 hb4, cell_grown hS.2 hb4⟩
  clear hK K
  replace hS := hS1
  clear hS1
  simp only [Act.put, List.getElem_toArray, List.getElem_cons_succ, List.getElem_cons_zero, List.setIfInBounds_toArray, List.set_cons_zero, List.set_cons_succ]
  refine wpAnyH_ready (rs := [8]) (by kernel_rfl) (by simp) ?_
  refine AllReadyH.cons rfl (fun K hK => ?_) AllReadyH.nil
  rw [if_pos (by rfl)]
  refine op_call 103 _ _ rfl (enters_of Tryz.func103 (by kernel_rfl) rfl) _ (c_Then MX MY _) rfl ?_
  rintro e w5 ⟨rfl, rfl⟩
  refine ⟨_, rfl, ?_⟩
  refine hK.out _ _ ?_ (fun hS1 => ?_)
  · exact hS
  clear hK K
  replace hS := hS1
  clear hS1
  simp only [Act.put, List.getElem_toArray, List.getElem_cons_succ, List.getElem_cons_zero, List.setIfInBounds_toArray, List.set_cons_zero, List.set_cons_succ]
  refine wpAnyH_take (i := 9) (v := .string (txt 16 (thenT x.sem y.sem))) rfl (by kernel_rfl) (by kernel_rfl) (by kernel_rfl) (fun _ _ _ h => h) (Or.inl ⟨by rfl, ?_⟩) hS ?_
  · intro w hSw
    go_simp
  simp only [Act.put, List.getElem_toArray, List.getElem_cons_succ, List.getElem_cons_zero, List.setIfInBounds_toArray, List.set_cons_zero, List.set_cons_succ]
  refine wpAnyH_done (by kernel_rfl) ?_ _
  go_wp2_with fail
  go_ret
  rw [HS.out]
  exact ⟨rfl, below_step (below_step hb.drew hb3) hb4⟩

theorem spec_tr38 (d : List Int) (x y : Ct) (ht : (Ct.n2 38 d x y).WF) (hn : d.length = 0) (hlen : (Ct.n2 38 d x y).len ≤ 200) (ih : TrYes x) (ihy : TrYes y) : TrYes (Ct.n2 38 d x y) := by
  have HS : Hid ((Ct.n2 38 d x y).sem = meetT x.sem y.sem) := rfl
  have MX := Ct.mon x ht.2.1
  have MY := Ct.mon y ht.2.2
  have hop := op_text (Ct.n2 38 d x y)
  have hb0 : ((bt (Ct.n2 38 d x y).text 0).toNat : Int) = 38 := by rw [hop]; rfl
  have hs0 : 0 < (Ct.n2 38 d x y).text.size := by rw [Ct.text_size]; exact (Ct.n2 38 d x y).len_pos
  clear hop
  intro w
  go_enter Tryz.func74, Tryz.ntmps74
  go_wp2_with fail
  refine (spec_l5Parts (Ct.n2 38 d x y) ht hlen w).mono ?_
  rintro e w1 ⟨⟨g, cap, rfl, hg⟩, hb⟩
  have h0 := hg 0 x rfl
  have h1 := hg 1 y rfl
  have e9 : (Ct.n2 38 d x y).parts.length = 2 := rfl
  rw [e9]
  go_wp2_with fail
  refine wp_region_held_drew (S := fun W => W.cell? ⟨g, 0, none⟩ = some (.string x.text) ∧ W.cell? ⟨g, 1, none⟩ = some (.string y.text)) (by kernel_rfl) ?_ (fun hS => ?_)
  · exact ⟨h0, h1⟩
  refine wpAnyH_take (i := 0) (v := .slice (some ⟨g, 0, none⟩) 2 cap) rfl (by kernel_rfl) (by kernel_rfl) (by kernel_rfl) (fun _ _ _ h => h) (Or.inl ⟨by rfl, ?_⟩) hS ?_
  · intro w hSw
    go_simp
  simp only [Act.put, List.getElem_toArray, List.getElem_cons_succ, List.getElem_cons_zero, List.setIfInBounds_toArray, List.set_cons_zero, List.set_cons_succ]
  refine wpAnyH_take (i := 1) (v := .pointer (some ⟨g, 0, none⟩)) rfl (by kernel_rfl) (by kernel_rfl) (by kernel_rfl) (fun _ _ _ h => h) (Or.inl ⟨by rfl, ?_⟩) hS ?_
  · intro w hSw
    go_simp
  simp only [Act.put, List.getElem_toArray, List.getElem_cons_succ, List.getElem_cons_zero, List.setIfInBounds_toArray, List.set_cons_zero, List.set_cons_succ]
  refine wpAnyH_take (i := 2) (v := .string x.text) rfl (by kernel_rfl) (by kernel_rfl) (by kernel_rfl) (fun _ _ _ h => h) (Or.inl ⟨by rfl, ?_⟩) hS ?_
  · rintro w ⟨c1, c2⟩
    go_simp
  simp only [Act.put, List.getElem_toArray, List.getElem_cons_succ, List.getElem_cons_zero, List.setIfInBounds_toArray, List.set_cons_zero, List.set_cons_succ]
  refine wpAnyH_take (i := 4) (v := .slice (some ⟨g, 0, none⟩) 2 cap) rfl (by kernel_rfl) (by kernel_rfl) (by kernel_rfl) (fun _ _ _ h => h) (Or.inl ⟨by rfl, ?_⟩) hS ?_
  · intro w hSw
    go_simp
  simp only [Act.put, List.getElem_toArray, List.getElem_cons_succ, List.getElem_cons_zero, List.setIfInBounds_toArray, List.set_cons_zero, List.set_cons_succ]
  refine wpAnyH_take (i := 5) (v := .pointer (some ⟨g, 1, none⟩)) rfl (by kernel_rfl) (by kernel_rfl) (by kernel_rfl) (fun _ _ _ h => h) (Or.inl ⟨by rfl, ?_⟩) hS ?_
  · intro w hSw
    go_simp
  simp only [Act.put, List.getElem_toArray, List.getElem_cons_succ, List.getElem_cons_zero, List.setIfInBounds_toArray, List.set_cons_zero, List.set_cons_succ]
  refine wpAnyH_take (i := 6) (v := .string y.text) rfl (by kernel_rfl) (by kernel_rfl) (by kernel_rfl) (fun _ _ _ h => h) (Or.inl ⟨by rfl, ?_⟩) hS ?_
  · rintro w ⟨c1, c2⟩
    go_simp
  simp only [Act.put, List.getElem_toArray, List.getElem_cons_succ, List.getElem_cons_zero, List.setIfInBounds_toArray, List.set_cons_zero, List.set_cons_succ]
  refine wpAnyH_ready (rs := [3]) (by kernel_rfl) (by simp) ?_
  refine AllReadyH.cons rfl (fun K hK => ?_) AllReadyH.nil
  rw [if_pos (by rfl)]
  refine op_call 74 _ _ rfl (enters_of Tryz.func74 (by kernel_rfl) rfl) _ (ih _) rfl ?_
  rintro e w3 ⟨rfl, hb3⟩
  refine ⟨_, rfl, ?_⟩
  refine hK.out _ _ ?_ (fun hS1 => ?_)
  · exact ⟨cell_grown hS.1 hb3, cell_grown hS.2 hb3⟩
  clear hK K
  replace hS := hS1
  clear hS1
  simp only [Act.put, List.getElem_toArray, List.getElem_cons_succ, List.getElem_cons_zero, List.setIfInBounds_toArray, List.set_cons_zero, List.set_cons_succ]
  refine wpAnyH_ready (rs := [7]) (by kernel_rfl) (by simp) ?_
  refine AllReadyH.cons rfl (fun K hK => ?_) AllReadyH.nil
  rw [if_pos (by rfl)]
  refine op_call 74 _ _ rfl (enters_of Tryz.func74 (by kernel_rfl) rfl) _ (ihy _) rfl ?_
  rintro e w4 ⟨rfl, hb4⟩
  refine ⟨_, rfl, ?_⟩
  refine hK.out _ _ ?_ (fun hS1 => ?_)
  · exact ⟨cell_grown hS.1 hb4, cell_grown hS.2 hb4⟩
  clear hK K
  replace hS := hS1
  clear hS1
  simp only [Act.put, List.getElem_toArray, List.getElem_cons_succ, List.getElem_cons_zero, List.setIfInBounds_toArray, List.set_cons_zero, List.set_cons_succ]
  refine wpAnyH_ready (rs := [8]) (by kernel_rfl) (by simp) ?_
  refine AllReadyH.cons rfl (fun K hK => ?_) AllReadyH.nil
  rw [if_pos (by rfl)]
  refine op_call 104 _ _ rfl (enters_of Tryz.func104 (by kernel_rfl) rfl) _ (c_Meet MX MY _) rfl ?_
  rintro e w5 ⟨rfl, rfl⟩
  refine ⟨_, rfl, ?_⟩
  refine hK.out _ _ ?_ (fun hS1 => ?_)
  · exact hS
  clear hK K
  replace hS := hS1
  clear hS1
  simp only [Act.put, List.getElem_toArray, List.getElem_cons_succ, List.getElem_cons_zero, List.setIfInBounds_toArray, List.set_cons_zero, List.set_cons_succ]
  refine wpAnyH_take (i := 9) (v := .string (txt 16 (meetT x.sem y.sem))) rfl (by kernel_rfl) (by kernel_rfl) (by kernel_rfl) (fun _ _ _ h => h) (Or.inl ⟨by rfl, ?_⟩) hS ?_
  · intro w hSw
    go_simp
  simp only [Act.put, List.getElem_toArray, List.getElem_cons_succ, List.getElem_cons_zero, List.setIfInBounds_toArray, List.set_cons_zero, List.set_cons_succ]
  refine wpAnyH_done (by kernel_rfl) ?_ _
  go_wp2_with fail
  go_ret
  rw [HS.out]
  exact ⟨rfl, below_step (below_step hb.drew hb3) hb4⟩

theorem spec_tr124 (d : List Int) (x y : Ct) (ht : (Ct.n2 124 d x y).WF) (hn : d.length = 0) (hlen : (Ct.n2 124 d x y).len ≤ 200) (ih : TrYes x) (ihy : TrYes y) : TrYes (Ct.n2 124 d x y) := by
  have HS : Hid ((Ct.n2 124 d x y).sem = joinT x.sem y.sem) := rfl
  have MX := Ct.mon x ht.2.1
  have MY := Ct.mon y ht.2.2
  have hop := op_text (Ct.n2 124 d x y)
  have hb0 : ((bt (Ct.n2 124 d x y).text 0).toNat : Int) = 124 := by rw [hop]; rfl
  have hs0 : 0 < (Ct.n2 124 d x y).text.size := by rw [Ct.text_size]; exact (Ct.n2 124 d x y).len_pos
  clear hop
  intro w
  go_enter Tryz.func74, Tryz.ntmps74
  go_wp2_with fail
  refine (spec_l5Parts (Ct.n2 124 d x y) ht hlen w).mono ?_
  rintro e w1 ⟨⟨g, cap, rfl, hg⟩, hb⟩
  have h0 := hg 0 x rfl
  have h1 := hg 1 y rfl
  have e9 : (Ct.n2 124 d x y).parts.length = 2 := rfl
  rw [e9]
  go_wp2_with fail
  refine wp_region_held_drew (S := fun W => W.cell? ⟨g, 0, none⟩ = some (.string x.text) ∧ W.cell? ⟨g, 1, none⟩ = some (.string y.text)) (by kernel_rfl) ?_ (fun hS => ?_)
  · exact ⟨h0, h1⟩
  refine wpAnyH_take (i := 0) (v := .slice (some ⟨g, 0, none⟩) 2 cap) rfl (by kernel_rfl) (by kernel_rfl) (by kernel_rfl) (fun _ _ _ h => h) (Or.inl ⟨by rfl, ?_⟩) hS ?_
  · intro w hSw
    go_simp
  simp only [Act.put, List.getElem_toArray, List.getElem_cons_succ, List.getElem_cons_zero, List.setIfInBounds_toArray, List.set_cons_zero, List.set_cons_succ]
  refine wpAnyH_take (i := 1) (v := .pointer (some ⟨g, 0, none⟩)) rfl (by kernel_rfl) (by kernel_rfl) (by kernel_rfl) (fun _ _ _ h => h) (Or.inl ⟨by rfl, ?_⟩) hS ?_
  · intro w hSw
    go_simp
  simp only [Act.put, List.getElem_toArray, List.getElem_cons_succ, List.getElem_cons_zero, List.setIfInBounds_toArray, List.set_cons_zero, List.set_cons_succ]
  refine wpAnyH_take (i := 2) (v := .string x.text) rfl (by kernel_rfl) (by kernel_rfl) (by kernel_rfl) (fun _ _ _ h => h) (Or.inl ⟨by rfl, ?_⟩) hS ?_
  · rintro w ⟨c1, c2⟩
    go_simp
  simp only [Act.put, List.getElem_toArray, List.getElem_cons_succ, List.getElem_cons_zero, List.setIfInBounds_toArray, List.set_cons_zero, List.set_cons_succ]
  refine wpAnyH_take (i := 4) (v := .slice (some ⟨g, 0, none⟩) 2 cap) rfl (by kernel_rfl) (by kernel_rfl) (by kernel_rfl) (fun _ _ _ h => h) (Or.inl ⟨by rfl, ?_⟩) hS ?_
  · intro w hSw
    go_simp
  simp only [Act.put, List.getElem_toArray, List.getElem_cons_succ, List.getElem_cons_zero, List.setIfInBounds_toArray, List.set_cons_zero, List.set_cons_succ]
  refine wpAnyH_take (i := 5) (v := .pointer (some ⟨g, 1, none⟩)) rfl (by kernel_rfl) (by kernel_rfl) (by kernel_rfl) (fun _ _ _ h => h) (Or.inl ⟨by rfl, ?_⟩) hS ?_
  · intro w hSw
    go_simp
  simp only [Act.put, List.getElem_toArray, List.getElem_cons_succ, List.getElem_cons_zero, List.setIfInBounds_toArray, List.set_cons_zero, List.set_cons_succ]
  refine wpAnyH_take (i := 6) (v := .string y.text) rfl (by kernel_rfl) (by kernel_rfl) (by kernel_rfl) (fun _ _ _ h => h) (Or.inl ⟨by rfl, ?_⟩) hS ?_
  · rintro w ⟨c1, c2⟩
    go_simp
  simp only [Act.put, List.getElem_toArray, List.getElem_cons_succ, List.getElem_cons_zero, List.setIfInBounds_toArray, List.set_cons_zero, List.set_cons_succ]
  refine wpAnyH_ready (rs := [3]) (by kernel_rfl) (by simp) ?_
  refine AllReadyH.cons rfl (fun K hK => ?_) AllReadyH.nil
  rw [if_pos (by rfl)]
  refine op_call 74 _ _ rfl (enters_of Tryz.func74 (by kernel_rfl) rfl) _ (ih _) rfl ?_
  rintro e w3 ⟨rfl, hb3⟩
  refine ⟨_, rfl, ?_⟩
  refine hK.out _ _ ?_ (fun hS1 => ?_)
  · exact ⟨cell_grown hS.1 hb3, cell_grown hS.2 hb3⟩
  clear hK K
  replace hS := hS1
  clear hS1
  simp only [Act.put, List.getElem_toArray, List.getElem_cons_succ, List.getElem_cons_zero, List.setIfInBounds_toArray, List.set_cons_zero, List.set_cons_succ]
  refine wpAnyH_ready (rs := [7]) (by kernel_rfl) (by simp) ?_
  refine AllReadyH.cons rfl (fun K hK => ?_) AllReadyH.nil
  rw [if_pos (by rfl)]
  refine op_call 74 _ _ rfl (enters_of Tryz.func74 (by kernel_rfl) rfl) _ (ihy _) rfl ?_
  rintro e w4 ⟨rfl, hb4⟩
  refine ⟨_, rfl, ?_⟩
  refine hK.out _ _ ?_ (fun hS1 => ?_)
  · exact ⟨cell_grown hS.1 hb4, cell_grown hS.2 hb4⟩
  clear hK K
  replace hS := hS1
  clear hS1
  simp only [Act.put, List.getElem_toArray, List.getElem_cons_succ, List.getElem_cons_zero, List.setIfInBounds_toArray, List.set_cons_zero, List.set_cons_succ]
  refine wpAnyH_ready (rs := [8]) (by kernel_rfl) (by simp) ?_
  refine AllReadyH.cons rfl (fun K hK => ?_) AllReadyH.nil
  rw [if_pos (by rfl)]
  refine op_call 105 _ _ rfl (enters_of Tryz.func105 (by kernel_rfl) rfl) _ (c_Join MX MY _) rfl ?_
  rintro e w5 ⟨rfl, rfl⟩
  refine ⟨_, rfl, ?_⟩
  refine hK.out _ _ ?_ (fun hS1 => ?_)
  · exact hS
  clear hK K
  replace hS := hS1
  clear hS1
  simp only [Act.put, List.getElem_toArray, List.getElem_cons_succ, List.getElem_cons_zero, List.setIfInBounds_toArray, List.set_cons_zero, List.set_cons_succ]
  refine wpAnyH_take (i := 9) (v := .string (txt 16 (joinT x.sem y.sem))) rfl (by kernel_rfl) (by kernel_rfl) (by kernel_rfl) (fun _ _ _ h => h) (Or.inl ⟨by rfl, ?_⟩) hS ?_
  · intro w hSw
    go_simp
  simp only [Act.put, List.getElem_toArray, List.getElem_cons_succ, List.getElem_cons_zero, List.setIfInBounds_toArray, List.set_cons_zero, List.set_cons_succ]
  refine wpAnyH_done (by kernel_rfl) ?_ _
  go_wp2_with fail
  go_ret
  rw [HS.out]
  exact ⟨rfl, below_step (below_step hb.drew hb3) hb4⟩

theorem spec_tr105 (d : List Int) (x y : Ct) (ht : (Ct.n2 105 d x y).WF) (hn : d.length = 1) (hlen : (Ct.n2 105 d x y).len ≤ 200) (ih : TrYes x) (ihy : TrYes y) : TrYes (Ct.n2 105 d x y) := by
  have MX := Ct.mon x ht.2.1
  have MY := Ct.mon y ht.2.2
  have HC : C (dsF d 0) := dsF_c ht.1.2 0
  have HS : Hid (txt 16 (Ct.n2 105 d x y).sem = txt 16 (joinT (thenT (assT (dsF d 0)) x.sem) (thenT (assT (notp (dsF d 0))) y.sem))) := (join_ite HC MX MY).txt.symm
  have HD : Hid (hx (bt (Ct.n2 105 d x y).text 1) = dsF d 0) := dig_ext ht hn
  have hop := op_text (Ct.n2 105 d x y)
  have hb0 : ((bt (Ct.n2 105 d x y).text 0).toNat : Int) = 105 := by rw [hop]; rfl
  have hs0 : 0 < (Ct.n2 105 d x y).text.size := by rw [Ct.text_size]; exact (Ct.n2 105 d x y).len_pos
  have hs1 : 1 < (Ct.n2 105 d x y).text.size := by rw [Ct.text_size]; have := (Ct.n2 105 d x y).len_head; rw [show (Ct.n2 105 d x y).ds.length = 1 from hn] at this; omega
  clear hop
  intro w
  go_enter Tryz.func74, Tryz.ntmps74
  go_wp2_with fail
  refine (spec_l5Parts (Ct.n2 105 d x y) ht hlen w).mono ?_
  rintro e w1 ⟨⟨g, cap, rfl, hg⟩, hb⟩
  have h0 := hg 0 x rfl
  have h1 := hg 1 y rfl
  have e9 : (Ct.n2 105 d x y).parts.length = 2 := rfl
  rw [e9]
  go_wp2_with fail
  refine (spec_l2Hex _ _).mono ?_
  rintro e w' ⟨rfl, rfl⟩
  go_wp2_with fail
  rw [HD.out]
  go_wp2_with fail
  have HN := notp_ok HC
  refine wp_region_held_drew (S := fun W => W.cell? ⟨g, 0, none⟩ = some (.string x.text) ∧ W.cell? ⟨g, 1, none⟩ = some (.string y.text)) (by kernel_rfl) ?_ (fun hS => ?_)
  · exact ⟨h0, h1⟩
  refine wpAnyH_take (i := 0) (v := .int .i64 (dsF d 0)) rfl (by kernel_rfl) (by kernel_rfl) (by kernel_rfl) (fun _ _ _ h => h) (Or.inl ⟨by rfl, ?_⟩) hS ?_
  · intro w hSw
    go_simp
  simp only [Act.put, List.getElem_toArray, List.getElem_cons_succ, List.getElem_cons_zero, List.setIfInBounds_toArray, List.set_cons_zero, List.set_cons_succ]
  refine wpAnyH_take (i := 2) (v := .slice (some ⟨g, 0, none⟩) 2 cap) rfl (by kernel_rfl) (by kernel_rfl) (by kernel_rfl) (fun _ _ _ h => h) (Or.inl ⟨by rfl, ?_⟩) hS ?_
  · intro w hSw
    go_simp
  simp only [Act.put, List.getElem_toArray, List.getElem_cons_succ, List.getElem_cons_zero, List.setIfInBounds_toArray, List.set_cons_zero, List.set_cons_succ]
  refine wpAnyH_take (i := 3) (v := .pointer (some ⟨g, 0, none⟩)) rfl (by kernel_rfl) (by kernel_rfl) (by kernel_rfl) (fun _ _ _ h => h) (Or.inl ⟨by rfl, ?_⟩) hS ?_
  · intro w hSw
    go_simp
  simp only [Act.put, List.getElem_toArray, List.getElem_cons_succ, List.getElem_cons_zero, List.setIfInBounds_toArray, List.set_cons_zero, List.set_cons_succ]
  refine wpAnyH_take (i := 4) (v := .string x.text) rfl (by kernel_rfl) (by kernel_rfl) (by kernel_rfl) (fun _ _ _ h => h) (Or.inl ⟨by rfl, ?_⟩) hS ?_
  · rintro w ⟨c1, c2⟩
    go_simp
  simp only [Act.put, List.getElem_toArray, List.getElem_cons_succ, List.getElem_cons_zero, List.setIfInBounds_toArray, List.set_cons_zero, List.set_cons_succ]
  refine wpAnyH_take (i := 7) (v := .int .i64 (dsF d 0)) rfl (by kernel_rfl) (by kernel_rfl) (by kernel_rfl) (fun _ _ _ h => h) (Or.inl ⟨by rfl, ?_⟩) hS ?_
  · intro w hSw
    go_simp
  simp only [Act.put, List.getElem_toArray, List.getElem_cons_succ, List.getElem_cons_zero, List.setIfInBounds_toArray, List.set_cons_zero, List.set_cons_succ]
  refine wpAnyH_take (i := 8) (v := .int .i64 (bits .andNot .i64 15 (dsF d 0))) rfl (by kernel_rfl) (by kernel_rfl) (by kernel_rfl) (fun _ _ _ h => h) (Or.inl ⟨by rfl, ?_⟩) hS ?_
  · intro w hSw
    go_simp
  simp only [Act.put, List.getElem_toArray, List.getElem_cons_succ, List.getElem_cons_zero, List.setIfInBounds_toArray, List.set_cons_zero, List.set_cons_succ]
  refine wpAnyH_take (i := 10) (v := .slice (some ⟨g, 0, none⟩) 2 cap) rfl (by kernel_rfl) (by kernel_rfl) (by kernel_rfl) (fun _ _ _ h => h) (Or.inl ⟨by rfl, ?_⟩) hS ?_
  · intro w hSw
    go_simp
  simp only [Act.put, List.getElem_toArray, List.getElem_cons_succ, List.getElem_cons_zero, List.setIfInBounds_toArray, List.set_cons_zero, List.set_cons_succ]
  refine wpAnyH_take (i := 11) (v := .pointer (some ⟨g, 1, none⟩)) rfl (by kernel_rfl) (by kernel_rfl) (by kernel_rfl) (fun _ _ _ h => h) (Or.inl ⟨by rfl, ?_⟩) hS ?_
  · intro w hSw
    go_simp
  simp only [Act.put, List.getElem_toArray, List.getElem_cons_succ, List.getElem_cons_zero, List.setIfInBounds_toArray, List.set_cons_zero, List.set_cons_succ]
  refine wpAnyH_take (i := 12) (v := .string y.text) rfl (by kernel_rfl) (by kernel_rfl) (by kernel_rfl) (fun _ _ _ h => h) (Or.inl ⟨by rfl, ?_⟩) hS ?_
  · rintro w ⟨c1, c2⟩
    go_simp
  simp only [Act.put, List.getElem_toArray, List.getElem_cons_succ, List.getElem_cons_zero, List.setIfInBounds_toArray, List.set_cons_zero, List.set_cons_succ]
  refine wpAnyH_ready (rs := [1]) (by kernel_rfl) (by simp) ?_
  refine AllReadyH.cons rfl (fun K hK => ?_) AllReadyH.nil
  rw [if_pos (by rfl)]
  refine op_call 100 _ _ rfl (enters_of Tryz.func100 (by kernel_rfl) rfl) _ (c_Assert HC _) rfl ?_
  rintro e w2 ⟨rfl, rfl⟩
  refine ⟨_, rfl, ?_⟩
  refine hK.out _ _ ?_ (fun hS1 => ?_)
  · exact hS
  clear hK K
  replace hS := hS1
  clear hS1
  simp only [Act.put, List.getElem_toArray, List.getElem_cons_succ, List.getElem_cons_zero, List.setIfInBounds_toArray, List.set_cons_zero, List.set_cons_succ]
  refine wpAnyH_ready (rs := [5]) (by kernel_rfl) (by simp) ?_
  refine AllReadyH.cons rfl (fun K hK => ?_) AllReadyH.nil
  rw [if_pos (by rfl)]
  refine op_call 74 _ _ rfl (enters_of Tryz.func74 (by kernel_rfl) rfl) _ (ih _) rfl ?_
  rintro e w3 ⟨rfl, hb3⟩
  refine ⟨_, rfl, ?_⟩
  refine hK.out _ _ ?_ (fun hS1 => ?_)
  · exact ⟨cell_grown hS.1 hb3, cell_grown hS.2 hb3⟩
  clear hK K
  replace hS := hS1
  clear hS1
  simp only [Act.put, List.getElem_toArray, List.getElem_cons_succ, List.getElem_cons_zero, List.setIfInBounds_toArray, List.set_cons_zero, List.set_cons_succ]
  refine wpAnyH_ready (rs := [6]) (by kernel_rfl) (by simp) ?_
  refine AllReadyH.cons rfl (fun K hK => ?_) AllReadyH.nil
  rw [if_pos (by rfl)]
  refine op_call 103 _ _ rfl (enters_of Tryz.func103 (by kernel_rfl) rfl) _ (c_Then (Mon.ass HC) MX _) rfl ?_
  rintro e w5 ⟨rfl, rfl⟩
  refine ⟨_, rfl, ?_⟩
  refine hK.out _ _ ?_ (fun hS1 => ?_)
  · exact hS
  clear hK K
  replace hS := hS1
  clear hS1
  simp only [Act.put, List.getElem_toArray, List.getElem_cons_succ, List.getElem_cons_zero, List.setIfInBounds_toArray, List.set_cons_zero, List.set_cons_succ]
  refine wpAnyH_ready (rs := [9]) (by kernel_rfl) (by simp) ?_
  refine AllReadyH.cons rfl (fun K hK => ?_) AllReadyH.nil
  rw [if_pos (by rfl)]
  refine op_call 100 _ _ rfl (enters_of Tryz.func100 (by kernel_rfl) rfl) _ (c_Assert HN _) rfl ?_
  rintro e w6 ⟨rfl, rfl⟩
  refine ⟨_, rfl, ?_⟩
  refine hK.out _ _ ?_ (fun hS1 => ?_)
  · exact hS
  clear hK K
  replace hS := hS1
  clear hS1
  simp only [Act.put, List.getElem_toArray, List.getElem_cons_succ, List.getElem_cons_zero, List.setIfInBounds_toArray, List.set_cons_zero, List.set_cons_succ]
  refine wpAnyH_ready (rs := [13]) (by kernel_rfl) (by simp) ?_
  refine AllReadyH.cons rfl (fun K hK => ?_) AllReadyH.nil
  rw [if_pos (by rfl)]
  refine op_call 74 _ _ rfl (enters_of Tryz.func74 (by kernel_rfl) rfl) _ (ihy _) rfl ?_
  rintro e w4 ⟨rfl, hb4⟩
  refine ⟨_, rfl, ?_⟩
  refine hK.out _ _ ?_ (fun hS1 => ?_)
  · exact ⟨cell_grown hS.1 hb4, cell_grown hS.2 hb4⟩
  clear hK K
  replace hS := hS1
  clear hS1
  simp only [Act.put, List.getElem_toArray, List.getElem_cons_succ, List.getElem_cons_zero, List.setIfInBounds_toArray, List.set_cons_zero, List.set_cons_succ]
  refine wpAnyH_ready (rs := [14]) (by kernel_rfl) (by simp) ?_
  refine AllReadyH.cons rfl (fun K hK => ?_) AllReadyH.nil
  rw [if_pos (by rfl)]
  refine op_call 103 _ _ rfl (enters_of Tryz.func103 (by kernel_rfl) rfl) _ (c_Then (Mon.ass HN) MY _) rfl ?_
  rintro e w7 ⟨rfl, rfl⟩
  refine ⟨_, rfl, ?_⟩
  refine hK.out _ _ ?_ (fun hS1 => ?_)
  · exact hS
  clear hK K
  replace hS := hS1
  clear hS1
  simp only [Act.put, List.getElem_toArray, List.getElem_cons_succ, List.getElem_cons_zero, List.setIfInBounds_toArray, List.set_cons_zero, List.set_cons_succ]
  refine wpAnyH_ready (rs := [15]) (by kernel_rfl) (by simp) ?_
  refine AllReadyH.cons rfl (fun K hK => ?_) AllReadyH.nil
  rw [if_pos (by rfl)]
  refine op_call 105 _ _ rfl (enters_of Tryz.func105 (by kernel_rfl) rfl) _ (c_Join ((Mon.ass HC).then MX) ((Mon.ass HN).then MY) _) rfl ?_
  rintro e w8 ⟨rfl, rfl⟩
  refine ⟨_, rfl, ?_⟩
  refine hK.out _ _ ?_ (fun hS1 => ?_)
  · exact hS
  clear hK K
  replace hS := hS1
  clear hS1
  simp only [Act.put, List.getElem_toArray, List.getElem_cons_succ, List.getElem_cons_zero, List.setIfInBounds_toArray, List.set_cons_zero, List.set_cons_succ]
  refine wpAnyH_take (i := 16) (v := .string (txt 16 (joinT (thenT (assT (dsF d 0)) x.sem) (thenT (assT (notp (dsF d 0))) y.sem)))) rfl (by kernel_rfl) (by kernel_rfl) (by kernel_rfl) (fun _ _ _ h => h) (Or.inl ⟨by rfl, ?_⟩) hS ?_
  · intro w hSw
    go_simp
  simp only [Act.put, List.getElem_toArray, List.getElem_cons_succ, List.getElem_cons_zero, List.setIfInBounds_toArray, List.set_cons_zero, List.set_cons_succ]
  refine wpAnyH_done (by kernel_rfl) ?_ _
  go_wp2_with fail
  go_ret
  rw [HS.out]
  exact ⟨rfl, below_step (below_step hb.drew hb3) hb4⟩

theorem spec_l5Trans : ∀ t : Ct, t.WF → t.len ≤ 200 → TrYes t
  | .n0 o d, ht, hl => by
    rcases shp0 ht.1 with ⟨rfl | rfl | rfl, hn⟩ | ⟨rfl | rfl, hn⟩ | ⟨rfl | rfl, hn⟩
    · exact spec_tr115 d ht hn hl
    · exact spec_tr97 d ht hn hl
    · exact spec_tr109 d ht hn hl
    · exact spec_tr33 d ht hn hl
    · exact spec_tr63 d ht hn hl
    · exact spec_tr65 d ht hn hl
    · exact spec_tr68 d ht hn hl
  | .n1 o d x, ht, hl => by
    have ih := spec_l5Trans x ht.2 (by rw [Ct.len1] at hl; omega)
    rcases shp1 ht.1.1 with ⟨rfl, hn⟩ | ⟨rfl | rfl, hn⟩
    · exact spec_tr119 d x ht hn hl ih
    · exact spec_tr42 d x ht hn hl ih
    · exact spec_tr43 d x ht hn hl ih
  | .n2 o d x y, ht, hl => by
    have ih := spec_l5Trans x ht.2.1 (by rw [Ct.len2] at hl; omega)
    have ihy := spec_l5Trans y ht.2.2 (by rw [Ct.len2] at hl; omega)
    rcases shp2 ht.1.1 with ⟨rfl | rfl | rfl, hn⟩ | ⟨rfl, hn⟩
    · exact spec_tr59 d x y ht hn hl ih ihy
    · exact spec_tr38 d x y ht hn hl ih ihy
    · exact spec_tr124 d x y ht hn hl ih ihy
    · exact spec_tr105 d x y ht hn hl ih ihy
end Go.Proofs.YtaeibhpkcikaaaaGreatDoor
