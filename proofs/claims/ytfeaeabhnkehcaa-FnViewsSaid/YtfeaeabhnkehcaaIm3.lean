/- Contracts: the program's functions on transformers, first part. -/
import Derived.Test.YtfeaeabhnkehcaaSp3
namespace Go.Proofs.Ytfeaeabhnkehcaa
set_option linter.unusedVariables false
set_option linter.unusedSimpArgs false
open Go.RowKit Go.Shelf
set_option maxRecDepth 100000
set_option maxHeartbeats 1000000

theorem trans_u : Try.prog.underlying 44 = some (.array 16 3) := Try.underlying44
theorem trans_i : (Try.prog.info? 44).map (·.size) = some 16 := by kernel_rfl

theorem impl_makeTrans (g : FuncId) (bv lb : Array Value) (f : Nat → Int) (w : World) (eg : Enters Try.prog g) (hg : AsksI Try.prog g bv lb 16 f w) :
    Calls Try.prog 99 #[.func (.func g) bv lb] w fun e w' => e = .returned (.agg (cs 16 f)) ∧ Below w.heap.size w w' := by
  have eg' : ∀ args w, (callFunc g args).run Try.prog w = .ok (.enter g args) w := eg
  go_enter Try.func99, Try.ntmps99
  go_wp2_with fail
  rw [← cs16_zero]
  go_loopw [6] (fun i wr => ∃ (k : Nat) (h : Nat → Int), k ≤ 16 ∧ i = .int .i64 k ∧ Hid (∀ j, j < k → h j = f j) ∧ Row wr (w.heap.size + 1) 44 16 h ∧ Row wr w.heap.size 44 16 (fun _ => 0) ∧ Below w.heap.size w wr) (fun i _ => 16 - (intOf i).toNat)
  case atStart => exact ⟨0, fun _ => 0, by omega, rfl, fun j hj => by omega, ⟨heap_alloc2_new _ _ _⟩, ⟨heap_alloc2_old _ _ _⟩, ((Below.refl _ _).alloc (Nat.le_refl _) _).alloc (by simp) _⟩
  case round =>
    obtain ⟨k, h, hk, rfl, H, HR, HR0, hb⟩ := hrel
    by_cases hlt : k < 16
    · go_wp2_with fail
      refine (hg _ k hlt hb).mono ?_
      rintro e w1 ⟨rfl, hb1⟩
      have hc := (HR.grown hb1).cell k hlt
      have hf := (HR.grown hb1).free k
      go_wp2_with fail
      go_roundw
      case rel => exact ⟨k + 1, upd h k (f k), by omega, by go_num, fun j hj => by
        rcases Nat.lt_or_ge j k with hj | hj
        · rw [upd_other _ _ _ _ (by omega)]; exact H.out j hj
        · obtain rfl : j = k := by omega
          rw [upd_same], (HR.grown hb1).set k _, (HR0.grown hb1).setAt _ _ _ (by omega), below_setAt (below_step hb hb1) _ _ (by omega) _⟩
      case measure => simp [intOf]; omega
    · obtain rfl : k = 16 := by omega
      go_wp2_with (first
        | (refine wp_load_Row rfl 44 _ rfl (w.heap.size + 1) rfl HR trans_u rfl trans_i ?_)
        | (refine wp_store_Row rfl 44 _ _ rfl w.heap.size rfl (f := h) rfl HR0 trans_i ?_))
      refine ret_Row rfl w.heap.size rfl (HR0.setRow _) trans_u rfl trans_i rfl ⟨?_, below_setRow hb (Nat.le_refl _) _⟩
      exact ret_agg (cs_ext fun j hj => H.out j hj)

theorem impl_trans_text (r : Nat → Int) (hr : Cond r) (w : World) :
    Calls Try.prog 60 #[.agg (cs 16 r)] w fun e w' => e = .returned (.string (txt 16 r)) ∧ Below w.heap.size w w' := by
  go_enter Try.func60, Try.ntmps60
  go_wp2_with (refine wp_load_Row rfl 44 _ rfl w.heap.size rfl (Row.new w 44 16 r) trans_u rfl trans_i ?_)
  go_loop [3, 7] (fun o i => ∃ k : Nat, k ≤ 16 ∧ i = .int .i64 k ∧ o = .string (txt k r)) (fun _ i => 16 - (intOf i).toNat)
  case atStart => exact ⟨0, by omega, rfl, rfl⟩
  case round =>
    obtain ⟨k, hk, rfl, rfl⟩ := hrel
    by_cases hlt : k < 16
    · have hx := fun W => run_index_cs (P := Try.prog) W 44 3 16 r k .i64 hlt trans_u Try.underlying3 (by kernel_rfl)
      go_wp2_with fail
      refine (impl_digit _ _ (hr k).1 (hr k).2).mono ?_
      rintro e w' ⟨rfl, rfl⟩
      go_wp2_with fail
      go_round
      case rel => exact ⟨k + 1, by omega, by go_num, congrArg Value.string (txt_succ k r)⟩
      case measure => simp [intOf]; omega
    · obtain rfl : k = 16 := by omega
      go_wp2_with fail
      go_ret
      exact ⟨rfl, (Below.refl _ _).alloc (Nat.le_refl _) _⟩

/-! ### reading a transformer -/
theorem impl_readTrans_no (s : ByteArray) (_hs : s.size ≤ 4611686018427387904) (hz : s.size ≠ 16) (w : World) :
    Calls Try.prog 49 #[.string s] w fun e w' => e = .returned (.tuple #[.agg (cs 16 (tabT s)), .bool (okTr s)]) ∧ Below w.heap.size w w' := by
  have e1 : ((s.size : Int) != 16) = true := by simp; omega
  have hn : okTr s = false := by
    rw [Bool.eq_false_iff]; intro h
    exact hz (okTxt_size (okTr_txt h))
  have HN := Lib.hid hn; clear hn
  clear hz
  go_enter Try.func49, Try.ntmps49
  go_wp2_with fail
  refine ret_Row_tmp (n := 16) (f := fun _ => 0) rfl w.heap.size rfl ⟨heap_alloc2_old _ _ _⟩ trans_u rfl trans_i rfl ⟨?_, ?_⟩
  · rw [tabT_none HN.out, HN.out]; rfl
  · exact ((Below.refl _ _).alloc (Nat.le_refl _) _).alloc (by simp) _

theorem impl_readTrans_yes (s : ByteArray) (hz : s.size = 16) (w : World) :
    Calls Try.prog 49 #[.string s] w fun e w' => e = .returned (.tuple #[.agg (cs 16 (tabT s)), .bool (okTr s)]) ∧ Below w.heap.size w w' := by
  have hz2 : 16 ≤ s.size := by omega
  have hz3 : s.size ≤ 16 := by omega
  have HZ := Lib.hid hz; clear hz
  have e1 : ((s.size : Int) != 16) = false := by rw [HZ.out]; rfl
  go_enter Try.func49, Try.ntmps49
  go_wp2_with fail
  clear e1
  rw [← cs16_zero]
  go_loopw [13] (fun i wr => ∃ (k : Nat) (f : Nat → Int), k ≤ 16 ∧ i = .int .i64 k ∧ Hid (∀ j, j < k → f j = hx (bt s j) ∧ 0 ≤ f j) ∧ Row wr (w.heap.size + 1) 44 16 f ∧ Row wr w.heap.size 44 16 (fun _ => 0) ∧ Below w.heap.size w wr) (fun i _ => 16 - (intOf i).toNat)
  case atStart => exact ⟨0, fun _ => 0, by omega, rfl, fun j hj => by omega, ⟨heap_alloc2_new _ _ _⟩, ⟨heap_alloc2_old _ _ _⟩, ((Below.refl _ _).alloc (Nat.le_refl _) _).alloc (by simp) _⟩
  case round =>
    obtain ⟨k, f, hk, rfl, H, HR, HR0, hb⟩ := hrel
    by_cases hlt : k < 16
    · have hc := HR.cell k hlt
      have hf := HR.free k
      by_cases hneg : hx (bt s k) < 0
      · go_wp2_with fail
        refine (impl_digitOf _ _).mono ?_
        rintro e w' ⟨rfl, rfl⟩
        go_wp2_with (refine wp_store_Row rfl 44 _ _ rfl w.heap.size rfl (f := fun _ => 0) rfl (HR0.setAt _ _ _ (by omega)) trans_i ?_)
        refine ret_Row_tmp rfl w.heap.size rfl ((HR0.setAt _ _ _ (by omega)).setRow _) trans_u rfl trans_i rfl ⟨?_, ?_⟩
        · have hn : okTr s = false := by
            rw [Bool.eq_false_iff]; intro h
            have := okTxt_hx (okTr_txt h) k hlt; omega
          rw [tabT_none hn, hn]; rfl
        · exact below_setRow (below_setAt hb _ _ (by omega) _) (Nat.le_refl _) _
      · have hc2 := (HR.set k (hx (bt s k))).cell k hlt
        rw [upd_same] at hc2
        have hneg' : 0 ≤ hx (bt s k) := by omega
        have HN := Lib.hid hneg'
        go_wp2_with fail
        refine (impl_digitOf _ _).mono ?_
        rintro e w' ⟨rfl, rfl⟩
        go_wp2_with fail
        go_roundw
        case rel => exact ⟨k + 1, upd f k (hx (bt s k)), by omega, by go_num, fun j hj => by
          rcases Nat.lt_or_ge j k with h | h
          · rw [upd_other _ _ _ _ (by omega)]; exact H.out j h
          · obtain rfl : j = k := by omega
            rw [upd_same]; exact ⟨rfl, HN.out⟩, HR.set k _, HR0.setAt _ _ _ (by omega), below_setAt hb _ _ (by omega) _⟩
        case measure => simp [intOf]; omega
    · obtain rfl : k = 16 := by omega
      have hok : okTxt 16 s = true := by
        simp only [okTxt, HZ.out, decide_true, Bool.true_and, List.all_eq_true, List.mem_range, decide_eq_true_eq]
        intro j hj; have := H.out j hj; omega
      have hv : ∀ j, j < 16 → f j = val s j := fun j hj => by rw [okTxt_val hok j hj]; exact (H.out j hj).1
      have HOK := Lib.hid hok; clear hok
      have HV := Lib.hid hv; clear hv
      clear H
      go_wp2_with fail
      obtain ⟨w0, rfl⟩ : ∃ w0 : World, w0 = wr := ⟨_, rfl⟩
      go_loopw [28] (fun i wr => ∃ (k : Nat), k ≤ 16 ∧ i = .int .i64 k ∧ Hid (∀ p, p < k → ∀ q, q < 16 → monoAt (val s) p q = true) ∧ Row wr (w.heap.size + 1) 44 16 f ∧ Row wr w.heap.size 44 16 (fun _ => 0) ∧ Below w.heap.size w wr) (fun i _ => 16 - (intOf i).toNat)
      case atStart => exact ⟨0, by omega, rfl, fun j hj => by omega, HR, HR0, hb⟩
      case round =>
        obtain ⟨k, hk, rfl, HK, HR, HR0, hb⟩ := hrel
        by_cases hlt : k < 16
        · have ek : decide ((k : Int) < 16) = true := by rw [decide_eq_true_eq]; omega
          go_wp2_with fail
          obtain ⟨w1, rfl⟩ : ∃ w1 : World, w1 = wr := ⟨_, rfl⟩
          go_loopw [31] (fun i wr => ∃ (j : Nat), j ≤ 16 ∧ i = .int .i64 j ∧ Hid (∀ q, q < j → monoAt (val s) k q = true) ∧ Row wr (w.heap.size + 1) 44 16 f ∧ Row wr w.heap.size 44 16 (fun _ => 0) ∧ Below w.heap.size w wr) (fun i _ => 16 - (intOf i).toNat)
          case atStart => exact ⟨0, by omega, rfl, fun j hj => by omega, HR, HR0, hb⟩
          case round =>
            obtain ⟨j, hj, rfl, HJ, HR, HR0, hb⟩ := hrel
            by_cases hjt : j < 16
            · have hck := HR.cell k hlt
              have hcj := HR.cell j hjt
              cases h1 : (bits .andNot .i64 (k : Int) (j : Int) == 0)
              · have HM : Hid (monoAt (val s) k j = true) := by show monoAt (val s) k j = true; simp [monoAt, h1]
                go_wp2_with fail
                go_quiet (fail)
                go_wp2_with fail
                go_roundw
                case rel => exact ⟨j + 1, by omega, by go_num, fun q hq => by
                  rcases Nat.lt_or_ge q j with h | h
                  · exact HJ.out q h
                  · obtain rfl : q = j := by omega
                    exact HM.out, HR.drewN _, HR0.drewN _, below_drewN hb _⟩
                case measure => simp [intOf]; omega
              · cases h2 : (bits .andNot .i64 (f k) (f j) != 0)
                · have HM : Hid (monoAt (val s) k j = true) := by
                    show monoAt (val s) k j = true
                    rw [HV.out k hlt, HV.out j hjt] at h2
                    simp [monoAt, h2]
                  go_wp2_with fail
                  go_quiet (fail)
                  go_wp2_with fail
                  go_roundw
                  case rel => exact ⟨j + 1, by omega, by go_num, fun q hq => by
                    rcases Nat.lt_or_ge q j with h | h
                    · exact HJ.out q h
                    · obtain rfl : q = j := by omega
                      exact HM.out, HR.drewN _, HR0.drewN _, below_drewN hb _⟩
                  case measure => simp [intOf]; omega
                · have HM : Hid (mono (val s) = false) := by
                    show mono (val s) = false
                    rw [Bool.eq_false_iff]; intro h
                    have := mono_at h hlt hjt
                    rw [HV.out k hlt, HV.out j hjt] at h2
                    simp [monoAt, h1, h2] at this
                  go_wp2_with fail
                  go_quiet (fail)
                  go_wp2_with (refine wp_store_Row rfl 44 _ _ rfl w.heap.size rfl (f := fun _ => 0) rfl (HR0.drewN _) trans_i ?_)
                  refine ret_Row_tmp rfl w.heap.size rfl ((HR0.drewN _).setRow _) trans_u rfl trans_i rfl ⟨?_, ?_⟩
                  · have hn : okTr s = false := by simp [okTr, HM.out]
                    rw [tabT_none hn, hn]; rfl
                  · exact below_setRow (below_drewN hb _) (Nat.le_refl _) _
            · obtain rfl : j = 16 := by omega
              go_wp2_with fail
              go_roundw
              case rel => exact ⟨k + 1, by omega, by go_num, fun p hp => by
                rcases Nat.lt_or_ge p k with h | h
                · exact HK.out p h
                · obtain rfl : p = k := by omega
                  exact HJ.out, HR, HR0, hb⟩
              case measure => simp [intOf]; omega
        · obtain rfl : k = 16 := by omega
          go_wp2_with (first
            | (refine wp_load_Row rfl 44 _ rfl (w.heap.size + 1) rfl HR trans_u rfl trans_i ?_)
            | (refine wp_store_Row rfl 44 _ _ rfl w.heap.size rfl (f := f) rfl HR0 trans_i ?_))
          refine ret_Row_tmp rfl w.heap.size rfl (HR0.setRow _) trans_u rfl trans_i rfl ⟨?_, ?_⟩
          · have hn : okTr s = true := by simp [okTr, HOK.out, mono_of HK.out]
            rw [tabT_val hn, hn, cs_ext HV.out]; rfl
          · exact below_setRow hb (Nat.le_refl _) _

theorem impl_readTrans (s : ByteArray) (hs : s.size ≤ 4611686018427387904) (w : World) :
    Calls Try.prog 49 #[.string s] w fun e w' => e = .returned (.tuple #[.agg (cs 16 (tabT s)), .bool (okTr s)]) ∧ Below w.heap.size w w' := by
  by_cases hz : s.size = 16
  · exact impl_readTrans_yes s hz w
  · exact impl_readTrans_no s hs hz w
end Go.Proofs.Ytfeaeabhnkehcaa
