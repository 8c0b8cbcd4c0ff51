/- Contracts: the program's functions on transformers, first part. -/
import Derived.Test.YtaeibhpkcikaaaaGreatGB
import Derived.Deep.RegionHeld3
/- Im3 -/
namespace Go.Proofs.YtaeibhpkcikaaaaGreat
set_option linter.unusedVariables false
set_option linter.unusedSimpArgs false
open Go.RowKit Go.Shelf
set_option maxRecDepth 100000
set_option maxHeartbeats 1000000

theorem trans_u : Tryz.prog.underlying 48 = some (.array 16 3) := Tryz.underlying48
theorem trans_i : (Tryz.prog.info? 48).map (·.size) = some 16 := by kernel_rfl

theorem impl_makeTrans (g : FuncId) (bv lb : Array Value) (f : Nat → Int) (w : World) (eg : Enters Tryz.prog g) (hg : AsksI Tryz.prog g bv lb 16 f w) :
    Calls Tryz.prog 46 #[.func (.func g) bv lb] w fun e w' => e = .returned (.agg (cs 16 f)) ∧ Below w.heap.size w w' := by
  have eg' : ∀ args w, (callFunc g args).run Tryz.prog w = .ok (.enter g args) w := eg
  go_enter Tryz.func46, Tryz.ntmps46
  go_wp2_with fail
  rw [← cs16_zero]
  go_loopw [6] (fun i wr => ∃ (k : Nat) (h : Nat → Int), k ≤ 16 ∧ i = .int .i64 k ∧ Hid (∀ j, j < k → h j = f j) ∧ Row wr (w.heap.size + 1) 48 16 h ∧ Row wr w.heap.size 48 16 (fun _ => 0) ∧ Below w.heap.size w wr) (fun i _ => 16 - (intOf i).toNat)
  case atStart => exact ⟨0, fun _ => 0, by omega, rfl, fun j hj => by omega, ⟨heap_alloc2_new _ _ _⟩, ⟨heap_alloc2_old _ _ _⟩, ((Below.refl _ _).alloc (Nat.le_refl _) _).alloc (by simp) _⟩
  case round =>
    obtain ⟨k, h, hk, rfl, H, HR, HR0, hb⟩ := hrel
    by_cases hlt : k < 16
    · go_wp2_with fail
      refine (hg _ k hlt hb).mono ?_
      rintro e w1 ⟨rfl, hb1⟩
      have hc := (HR.grown hb1).cell k hlt
      have hf := (HR.grown hb1).free k
      go_wp2_with fail
      go_roundw
      case rel => exact ⟨k + 1, upd h k (f k), by omega, by go_num, fun j hj => by
        rcases Nat.lt_or_ge j k with hj | hj
        · rw [upd_other _ _ _ _ (by omega)]; exact H.out j hj
        · obtain rfl : j = k := by omega
          rw [upd_same], (HR.grown hb1).set k _, (HR0.grown hb1).setAt _ _ _ (by omega), below_setAt (below_step hb hb1) _ _ (by omega) _⟩
      case measure => simp [intOf]; omega
    · obtain rfl : k = 16 := by omega
      go_wp2_with (first
        | (refine wp_load_Row rfl 48 _ rfl (w.heap.size + 1) rfl HR trans_u rfl trans_i ?_)
        | (refine wp_store_Row rfl 48 _ _ rfl w.heap.size rfl (f := h) rfl HR0 trans_i ?_))
      refine ret_Row rfl w.heap.size rfl (HR0.setRow _) trans_u rfl trans_i rfl ⟨?_, below_setRow hb (Nat.le_refl _) _⟩
      exact ret_agg (cs_ext fun j hj => H.out j hj)

theorem impl_trans_text (r : Nat → Int) (hr : Cond r) (w : World) :
    Calls Tryz.prog 70 #[.agg (cs 16 r)] w fun e w' => e = .returned (.string (txt 16 r)) ∧ Below w.heap.size w w' := by
  go_enter Tryz.func70, Tryz.ntmps70
  go_wp2_with (refine wp_load_Row rfl 48 _ rfl w.heap.size rfl (Row.new w 48 16 r) trans_u rfl trans_i ?_)
  go_loop [3, 7] (fun o i => ∃ k : Nat, k ≤ 16 ∧ i = .int .i64 k ∧ o = .string (txt k r)) (fun _ i => 16 - (intOf i).toNat)
  case atStart => exact ⟨0, by omega, rfl, rfl⟩
  case round =>
    obtain ⟨k, hk, rfl, rfl⟩ := hrel
    by_cases hlt : k < 16
    · have hx := fun W => run_index_cs (P := Tryz.prog) W 48 3 16 r k .i64 hlt trans_u Tryz.underlying3 (by kernel_rfl)
      go_wp2_with fail
      refine (impl_digit _ _ (hr k).1 (hr k).2).mono ?_
      rintro e w' ⟨rfl, rfl⟩
      go_wp2_with fail
      go_round
      case rel => exact ⟨k + 1, by omega, by go_num, congrArg Value.string (txt_succ k r)⟩
      case measure => simp [intOf]; omega
    · obtain rfl : k = 16 := by omega
      go_wp2_with fail
      go_ret
      exact ⟨rfl, (Below.refl _ _).alloc (Nat.le_refl _) _⟩

/-! ### reading a transformer -/
theorem impl_readTrans_no (s : ByteArray) (_hs : s.size ≤ 4611686018427387904) (hz : s.size ≠ 16) (w : World) :
    Calls Tryz.prog 30 #[.string s] w fun e w' => e = .returned (.tuple #[.agg (cs 16 (tabT s)), .bool (okTr s)]) ∧ Below w.heap.size w w' := by
  have e1 : ((s.size : Int) != 16) = true := by simp; omega
  have hn : okTr s = false := by
    rw [Bool.eq_false_iff]; intro h
    exact hz (okTxt_size (okTr_txt h))
  have HN := Lib.hid hn; clear hn
  clear hz
  go_enter Tryz.func30, Tryz.ntmps30
  go_wp2_with fail
  refine ret_Row_tmp (n := 16) (f := fun _ => 0) rfl w.heap.size rfl ⟨heap_alloc2_old _ _ _⟩ trans_u rfl trans_i rfl ⟨?_, ?_⟩
  · rw [tabT_none HN.out, HN.out]; rfl
  · exact ((Below.refl _ _).alloc (Nat.le_refl _) _).alloc (by simp) _

theorem impl_readTrans_yes (s : ByteArray) (hz : s.size = 16) (w : World) :
    Calls Tryz.prog 30 #[.string s] w fun e w' => e = .returned (.tuple #[.agg (cs 16 (tabT s)), .bool (okTr s)]) ∧ Below w.heap.size w w' := by
  have hz2 : 16 ≤ s.size := by omega
  have hz3 : s.size ≤ 16 := by omega
  have HZ := Lib.hid hz; clear hz
  have e1 : ((s.size : Int) != 16) = false := by rw [HZ.out]; rfl
  go_enter Tryz.func30, Tryz.ntmps30
  go_wp2_with fail
  clear e1
  rw [← cs16_zero]
  go_loopw [13] (fun i wr => ∃ (k : Nat) (f : Nat → Int), k ≤ 16 ∧ i = .int .i64 k ∧ Hid (∀ j, j < k → f j = hx (bt s j) ∧ 0 ≤ f j) ∧ Row wr (w.heap.size + 1) 48 16 f ∧ Row wr w.heap.size 48 16 (fun _ => 0) ∧ Below w.heap.size w wr) (fun i _ => 16 - (intOf i).toNat)
  case atStart => exact ⟨0, fun _ => 0, by omega, rfl, fun j hj => by omega, ⟨heap_alloc2_new _ _ _⟩, ⟨heap_alloc2_old _ _ _⟩, ((Below.refl _ _).alloc (Nat.le_refl _) _).alloc (by simp) _⟩
  case round =>
    obtain ⟨k, f, hk, rfl, H, HR, HR0, hb⟩ := hrel
    by_cases hlt : k < 16
    · have hc := HR.cell k hlt
      have hf := HR.free k
      by_cases hneg : hx (bt s k) < 0
      · go_wp2_with fail
        refine (impl_digitOf _ _).mono ?_
        rintro e w' ⟨rfl, rfl⟩
        go_wp2_with (refine wp_store_Row rfl 48 _ _ rfl w.heap.size rfl (f := fun _ => 0) rfl (HR0.setAt _ _ _ (by omega)) trans_i ?_)
        refine ret_Row_tmp rfl w.heap.size rfl ((HR0.setAt _ _ _ (by omega)).setRow _) trans_u rfl trans_i rfl ⟨?_, ?_⟩
        · have hn : okTr s = false := by
            rw [Bool.eq_false_iff]; intro h
            have := okTxt_hx (okTr_txt h) k hlt; omega
          rw [tabT_none hn, hn]; rfl
        · exact below_setRow (below_setAt hb _ _ (by omega) _) (Nat.le_refl _) _
      · have hc2 := (HR.set k (hx (bt s k))).cell k hlt
        rw [upd_same] at hc2
        have hneg' : 0 ≤ hx (bt s k) := by omega
        have HN := Lib.hid hneg'
        go_wp2_with fail
        refine (impl_digitOf _ _).mono ?_
        rintro e w' ⟨rfl, rfl⟩
        go_wp2_with fail
        go_roundw
        case rel => exact ⟨k + 1, upd f k (hx (bt s k)), by omega, by go_num, fun j hj => by
          rcases Nat.lt_or_ge j k with h | h
          · rw [upd_other _ _ _ _ (by omega)]; exact H.out j h
          · obtain rfl : j = k := by omega
            rw [upd_same]; exact ⟨rfl, HN.out⟩, HR.set k _, HR0.setAt _ _ _ (by omega), below_setAt hb _ _ (by omega) _⟩
        case measure => simp [intOf]; omega
    · obtain rfl : k = 16 := by omega
      have hok : okTxt 16 s = true := by
        simp only [okTxt, HZ.out, decide_true, Bool.true_and, List.all_eq_true, List.mem_range, decide_eq_true_eq]
        intro j hj; have := H.out j hj; omega
      have hv : ∀ j, j < 16 → f j = val s j := fun j hj => by rw [okTxt_val hok j hj]; exact (H.out j hj).1
      have HOK := Lib.hid hok; clear hok
      have HV := Lib.hid hv; clear hv
      clear H
      go_wp2_with fail
      obtain ⟨w0, rfl⟩ : ∃ w0 : World, w0 = wr := ⟨_, rfl⟩
      go_loopw [28] (fun i wr => ∃ (k : Nat), k ≤ 16 ∧ i = .int .i64 k ∧ Hid (∀ p, p < k → ∀ q, q < 16 → monoAt (val s) p q = true) ∧ Row wr (w.heap.size + 1) 48 16 f ∧ Row wr w.heap.size 48 16 (fun _ => 0) ∧ Below w.heap.size w wr) (fun i _ => 16 - (intOf i).toNat)
      case atStart => exact ⟨0, by omega, rfl, fun j hj => by omega, HR, HR0, hb⟩
      case round =>
        obtain ⟨k, hk, rfl, HK, HR, HR0, hb⟩ := hrel
        by_cases hlt : k < 16
        · have ek : decide ((k : Int) < 16) = true := by rw [decide_eq_true_eq]; omega
          go_wp2_with fail
          obtain ⟨w1, rfl⟩ : ∃ w1 : World, w1 = wr := ⟨_, rfl⟩
          go_loopw [31] (fun i wr => ∃ (j : Nat), j ≤ 16 ∧ i = .int .i64 j ∧ Hid (∀ q, q < j → monoAt (val s) k q = true) ∧ Row wr (w.heap.size + 1) 48 16 f ∧ Row wr w.heap.size 48 16 (fun _ => 0) ∧ Below w.heap.size w wr) (fun i _ => 16 - (intOf i).toNat)
          case atStart => exact ⟨0, by omega, rfl, fun j hj => by omega, HR, HR0, hb⟩
          case round =>
            obtain ⟨j, hj, rfl, HJ, HR, HR0, hb⟩ := hrel
            by_cases hjt : j < 16
            · have hck := HR.cell k hlt
              have hcj := HR.cell j hjt
              cases h1 : (bits .andNot .i64 (k : Int) (j : Int) == 0)
              · have HM : Hid (monoAt (val s) k j = true) := by show monoAt (val s) k j = true; simp [monoAt, h1]
                go_wp2_with fail
                go_quiet (fail)
                go_wp2_with fail
                go_roundw
                case rel => exact ⟨j + 1, by omega, by go_num, fun q hq => by
                  rcases Nat.lt_or_ge q j with h | h
                  · exact HJ.out q h
                  · obtain rfl : q = j := by omega
                    exact HM.out, HR.drewN _, HR0.drewN _, below_drewN hb _⟩
                case measure => simp [intOf]; omega
              · cases h2 : (bits .andNot .i64 (f k) (f j) != 0)
                · have HM : Hid (monoAt (val s) k j = true) := by
                    show monoAt (val s) k j = true
                    rw [HV.out k hlt, HV.out j hjt] at h2
                    simp [monoAt, h2]
                  go_wp2_with fail
                  go_quiet (fail)
                  go_wp2_with fail
                  go_roundw
                  case rel => exact ⟨j + 1, by omega, by go_num, fun q hq => by
                    rcases Nat.lt_or_ge q j with h | h
                    · exact HJ.out q h
                    · obtain rfl : q = j := by omega
                      exact HM.out, HR.drewN _, HR0.drewN _, below_drewN hb _⟩
                  case measure => simp [intOf]; omega
                · have HM : Hid (mono (val s) = false) := by
                    show mono (val s) = false
                    rw [Bool.eq_false_iff]; intro h
                    have := mono_at h hlt hjt
                    rw [HV.out k hlt, HV.out j hjt] at h2
                    simp [monoAt, h1, h2] at this
                  go_wp2_with fail
                  go_quiet (fail)
                  go_wp2_with (refine wp_store_Row rfl 48 _ _ rfl w.heap.size rfl (f := fun _ => 0) rfl (HR0.drewN _) trans_i ?_)
                  refine ret_Row_tmp rfl w.heap.size rfl ((HR0.drewN _).setRow _) trans_u rfl trans_i rfl ⟨?_, ?_⟩
                  · have hn : okTr s = false := by simp [okTr, HM.out]
                    rw [tabT_none hn, hn]; rfl
                  · exact below_setRow (below_drewN hb _) (Nat.le_refl _) _
            · obtain rfl : j = 16 := by omega
              go_wp2_with fail
              go_roundw
              case rel => exact ⟨k + 1, by omega, by go_num, fun p hp => by
                rcases Nat.lt_or_ge p k with h | h
                · exact HK.out p h
                · obtain rfl : p = k := by omega
                  exact HJ.out, HR, HR0, hb⟩
              case measure => simp [intOf]; omega
        · obtain rfl : k = 16 := by omega
          go_wp2_with (first
            | (refine wp_load_Row rfl 48 _ rfl (w.heap.size + 1) rfl HR trans_u rfl trans_i ?_)
            | (refine wp_store_Row rfl 48 _ _ rfl w.heap.size rfl (f := f) rfl HR0 trans_i ?_))
          refine ret_Row_tmp rfl w.heap.size rfl (HR0.setRow _) trans_u rfl trans_i rfl ⟨?_, ?_⟩
          · have hn : okTr s = true := by simp [okTr, HOK.out, mono_of HK.out]
            rw [tabT_val hn, hn, cs_ext HV.out]; rfl
          · exact below_setRow hb (Nat.le_refl _) _

theorem impl_readTrans (s : ByteArray) (hs : s.size ≤ 4611686018427387904) (w : World) :
    Calls Tryz.prog 30 #[.string s] w fun e w' => e = .returned (.tuple #[.agg (cs 16 (tabT s)), .bool (okTr s)]) ∧ Below w.heap.size w w' := by
  by_cases hz : s.size = 16
  · exact impl_readTrans_yes s hz w
  · exact impl_readTrans_no s hs hz w
end Go.Proofs.YtaeibhpkcikaaaaGreat

/- Im3b -/
namespace Go.Proofs.YtaeibhpkcikaaaaGreat
set_option linter.unusedVariables false
set_option linter.unusedSimpArgs false
open Go.RowKit Go.Shelf
set_option maxRecDepth 100000
set_option maxHeartbeats 1000000

theorem impl_then1 (t u : Nat → Int) (hu : Cond u) (b c : Nat) (w : World) (HT : Row w b 48 16 t) (HU : Row w c 48 16 u) (k : Nat) (hk : k < 16) :
    Calls Tryz.prog 84 #[.int .i64 k, .pointer (some ⟨b, 0, none⟩), .pointer (some ⟨c, 0, none⟩)] w fun e w' => e = .returned (.int .i64 (thenT t u k)) ∧ Below w.heap.size w w' := by
  have h0 := hu k
  have h1 := HU.cell k hk
  have h2 := HT.cell (u k).toNat (by omega)
  obtain ⟨h3, h4⟩ := h0
  go_enter Tryz.func84, Tryz.ntmps84
  go_wp2_with fail
  go_ret
  exact ⟨rfl, Below.refl _ _⟩

theorem impl_then (t u : Nat → Int) (hu : Cond u) (w : World) :
    Calls Tryz.prog 42 #[.agg (cs 16 t), .agg (cs 16 u)] w fun e w' => e = .returned (.agg (cs 16 (thenT t u))) ∧ Below w.heap.size w w' := by
  go_enter Tryz.func42, Tryz.ntmps42
  go_wp2_with fail
  refine (impl_makeTrans _ _ _ (thenT t u) _ (enters_of Tryz.func84 (by kernel_rfl) rfl) ?_).mono ?_
  · intro W k hk hb
    exact impl_then1 t u hu _ _ W ((((Row.new w _ 16 t).old _).old _).grown hb) (((Row.newAt (w.alloc _) _ 16 u _ (by simp)).old _).grown hb) k hk
  rintro e w1 ⟨rfl, hb1⟩
  have HR0 : Row w1 (w.heap.size + 2) 48 16 (fun _ => 0) := (Row.zero16 _ _ _ (by simp)).grown hb1
  go_wp2_with (refine wp_store_Row rfl 48 _ _ rfl (w.heap.size + 2) rfl (f := thenT t u) rfl HR0 trans_i ?_)
  refine ret_Row rfl (w.heap.size + 2) rfl (HR0.setRow _) trans_u rfl trans_i rfl ⟨rfl, below_setRow ?_ (by omega) _⟩
  exact below_step (below_new (below_new (below_new (Below.refl _ _) _) _) _) hb1

theorem impl_assert1 (p : Int) (b : Nat) (w : World) (hc : w.cell? ⟨b, 0, none⟩ = some (.int .i64 p)) (k : Nat) :
    Calls Tryz.prog 85 #[.int .i64 k, .pointer (some ⟨b, 0, none⟩)] w fun e w' => e = .returned (.int .i64 (assertT p k)) ∧ Below w.heap.size w w' := by
  go_enter Tryz.func85, Tryz.ntmps85
  go_wp2_with fail
  go_ret
  exact ⟨rfl, Below.refl _ _⟩

theorem impl_assert (p : Int) (w : World) :
    Calls Tryz.prog 43 #[.int .i64 p] w fun e w' => e = .returned (.agg (cs 16 (assertT p))) ∧ Below w.heap.size w w' := by
  go_enter Tryz.func43, Tryz.ntmps43
  go_wp2_with fail
  refine (impl_makeTrans _ _ _ (assertT p) _ (enters_of Tryz.func85 (by kernel_rfl) rfl) ?_).mono ?_
  · intro W k hk hb
    exact impl_assert1 p _ W ((hb.cell (p := ⟨w.heap.size, 0, none⟩) (by simp; omega)).trans ((World.cell?_alloc_past _ _ _ (by simp)).trans (World.cell?_alloc_at _ _ _ _ rfl))) k
  rintro e w1 ⟨rfl, hb1⟩
  have HR0 : Row w1 (w.heap.size + 1) 48 16 (fun _ => 0) := (Row.zero16 _ _ _ (by simp)).grown hb1
  go_wp2_with (refine wp_store_Row rfl 48 _ _ rfl (w.heap.size + 1) rfl (f := assertT p) rfl HR0 trans_i ?_)
  refine ret_Row rfl (w.heap.size + 1) rfl (HR0.setRow _) trans_u rfl trans_i rfl ⟨rfl, below_setRow ?_ (by omega) _⟩
  exact below_step (below_new (below_new (Below.refl _ _) _) _) hb1

theorem impl_angel (r : Nat → Int) (w : World) :
    Calls Tryz.prog 41 #[.agg (cs 4 r)] w fun e w' => e = .returned (.agg (cs 16 (angelT r))) ∧ Below w.heap.size w w' := by
  have R1 := fun o => (Row.new w 41 4 r).old o
  go_enter Tryz.func41, Tryz.ntmps41
  go_wp2_with (refine wp_load_Row rfl 41 _ rfl w.heap.size rfl (R1 _) rel_u rfl rel_i ?_)
  refine (impl_makeTrans _ _ _ (angelT r) _ (enters_of Tryz.func69 (by kernel_rfl) rfl) ?_).mono ?_
  · intro W k hk hb
    exact impl_diamond r k W
  rintro e w1 ⟨rfl, hb1⟩
  have HR0 : Row w1 (w.heap.size + 1) 48 16 (fun _ => 0) := (Row.zero16 _ _ _ (by simp)).grown hb1
  go_wp2_with (refine wp_store_Row rfl 48 _ _ rfl (w.heap.size + 1) rfl (f := angelT r) rfl HR0 trans_i ?_)
  refine ret_Row rfl (w.heap.size + 1) rfl (HR0.setRow _) trans_u rfl trans_i rfl ⟨rfl, below_setRow ?_ (by omega) _⟩
  exact below_step (below_new (below_new (Below.refl _ _) _) _) hb1

theorem impl_demon (r : Nat → Int) (w : World) :
    Calls Tryz.prog 45 #[.agg (cs 4 r)] w fun e w' => e = .returned (.agg (cs 16 (demonT r))) ∧ Below w.heap.size w w' := by
  have R1 := fun o => (Row.new w 41 4 r).old o
  go_enter Tryz.func45, Tryz.ntmps45
  go_wp2_with (refine wp_load_Row rfl 41 _ rfl w.heap.size rfl (R1 _) rel_u rfl rel_i ?_)
  refine (impl_makeTrans _ _ _ (demonT r) _ (enters_of Tryz.func87 (by kernel_rfl) rfl) ?_).mono ?_
  · intro W k hk hb
    exact impl_box r k W
  rintro e w1 ⟨rfl, hb1⟩
  have HR0 : Row w1 (w.heap.size + 1) 48 16 (fun _ => 0) := (Row.zero16 _ _ _ (by simp)).grown hb1
  go_wp2_with (refine wp_store_Row rfl 48 _ _ rfl (w.heap.size + 1) rfl (f := demonT r) rfl HR0 trans_i ?_)
  refine ret_Row rfl (w.heap.size + 1) rfl (HR0.setRow _) trans_u rfl trans_i rfl ⟨rfl, below_setRow ?_ (by omega) _⟩
  exact below_step (below_new (below_new (Below.refl _ _) _) _) hb1

theorem impl_refined (t u : Nat → Int) (w : World) :
    Calls Tryz.prog 29 #[.agg (cs 16 t), .agg (cs 16 u)] w fun e w' => e = .returned (.bool (refT t u)) ∧ Below w.heap.size w w' := by
  go_enter Tryz.func29, Tryz.ntmps29
  go_wp2_with fail
  go_loopw [6] (fun i wr => ∃ (k : Nat), k ≤ 16 ∧ i = .int .i64 k ∧ Hid (∀ j, j < k → bits .andNot .i64 (t j) (u j) = 0) ∧ Row wr w.heap.size 48 16 t ∧ Row wr (w.heap.size + 1) 48 16 u ∧ Below w.heap.size w wr) (fun i _ => 16 - (intOf i).toNat)
  case atStart => exact ⟨0, by omega, rfl, fun j hj => by omega, (Row.new w _ 16 t).old _, Row.newAt (w.alloc _) _ 16 u _ (by simp), below_new (below_new (Below.refl _ _) _) _⟩
  case round =>
    obtain ⟨k, hk, rfl, H, HT, HU, hb⟩ := hrel
    by_cases hlt : k < 16
    · have h1 := HT.cell k hlt
      have h2 := HU.cell k hlt
      cases hz : (bits .andNot .i64 (t k) (u k) != 0)
      · have HZ : Hid (bits .andNot .i64 (t k) (u k) = 0) := by show bits .andNot .i64 (t k) (u k) = 0; simpa using hz
        go_wp2_with fail
        go_quiet (fail)
        go_wp2_with fail
        go_roundw
        case rel => exact ⟨k + 1, by omega, by go_num, fun j hj => by
          rcases Nat.lt_or_ge j k with h | h
          · exact H.out j h
          · obtain rfl : j = k := by omega
            exact HZ.out, HT.drewN _, HU.drewN _, below_drewN hb _⟩
        case measure => simp [intOf]; omega
      · have HZ : Hid (refT t u = false) := by
          show refT t u = false
          rw [Bool.eq_false_iff]; intro h
          have := refT_at h hlt
          simp [this] at hz
        go_wp2_with fail
        go_quiet (fail)
        go_wp2_with fail
        go_ret
        exact ⟨ret_bool HZ.out.symm, below_drewN hb _⟩
    · obtain rfl : k = 16 := by omega
      go_wp2_with fail
      go_ret
      exact ⟨ret_bool (refT_of H.out).symm, hb⟩

theorem cell_grown {w w' : World} {a : Addr} {v : Value} (h : w.cell? a = some v) (hb : Below w.heap.size w w') : w'.cell? a = some v := (hb.cell (block_lt_of_cell h)).trans h

/-! ### what a drawn region reads -/
theorem yields_Row {P : Program} {ops : Array Oper} {S : World → Prop} {op : Oper} {a : Act} (hw : Region.wanted op (yielded ops a.tmps) = true) (ty : TypeId) (x : Operand) (ho : op.op = .load ty x)
    (b : Nat) (hx : a.eval x = .pointer (some ⟨b, 0, none⟩)) {t : TypeId} {n : Nat} {f : Nat → Int} {d : TypeDesc} (hS : ∀ w, S w → Row w b t n f)
    (hu : P.underlying ty = some d) (hd : (match d with | .struct _ | .array _ _ => true | _ => false) = true) (hi : (P.info? ty).map (·.size) = some n) : YieldsIf P ops S op (.agg (cs n f)) a :=
  .inl ⟨hw, fun w hw' => by
    unfold execOp
    simp only [ho, hx, Instr.loadAt, Instr.sureAddr, Sem.run_bind, Sem.run_pure, Result.andThen_ok, run_loadVar_row w b t ty (cs n f) (0, 0) d (hS w hw').eq hu hd (by rw [cs_size]; exact hi)]⟩
theorem op_store_Row {P : Program} {o : Oper} {a : Act} {w : World} {K : Act → World → Prop} {Q : Exit → Act → World → Prop} (ty : TypeId) (x y : Operand) (ho : o.op = .store ty x y)
    (g : Nat) (hx : a.eval x = .pointer (some ⟨g, 0, none⟩)) {n : Nat} {f : Nat → Int} (hy : a.eval y = .agg (cs n f)) {t : TypeId} {f0 : Nat → Int}
    (hg : Row w g t n f0) (hi : (P.info? ty).map (·.size) = some n)
    (h : K (a.put o.dst undef) (w.setRow g (cs n f))) : o.wp P a w K Q :=
  wp_store_row ty x y ho g (cs n f) hx hy t (cs n f0) hg.eq (by rw [cs_size]; exact hi) (by rw [cs_size, cs_size]) (cs_one n f) h

theorem op_call {P : Program} {o : Oper} {a : Act} {w : World} {K : Act → World → Prop} {Q : Exit → Act → World → Prop} (f : FuncId) (xs : Array Operand) (ts : Array TypeId)
    (ho : o.op = .call { callee := .value (.func f), args := xs, argTypes := ts }) (he : Enters P f) (args : Array Value) {R : Ending → World → Prop} (h : Calls P f args w R) (hargs0 : xs.toList.map a.eval = args.toList)
    (hk : ∀ e w', R e w' → ∃ v, e = .returned v ∧ K (a.put o.dst v) w') : o.wp P a w K Q := by
  have hargs : xs.map a.eval = args := by apply Array.ext'; rw [Array.toList_map]; exact hargs0
  unfold Oper.wp execOp
  have he' := fun args w => he args w
  simp only [ho]
  simp [go_sem, hargs, he']
  refine h.mono fun e w' hr => ?_
  obtain ⟨v, rfl, hK⟩ := hk e w' hr
  unfold Act.put at hK
  exact hK

theorem impl_forward (r t u : Nat → Int) (ht : Cond t) (_hu : Cond u) (w : World) :
    Calls Tryz.prog 22 #[.agg (cs 4 r), .agg (cs 16 t), .agg (cs 16 u)] w fun e w' => e = .returned (.bool (refT (thenT (angelT r) t) (thenT u (angelT r)))) ∧ Below w.heap.size w w' := by
  go_enter Tryz.func22, Tryz.ntmps22
  go_wp2_with fail
  obtain ⟨W, HX, HT, HU, hb, hW⟩ : ∃ W, Row W w.heap.size 41 4 r ∧ Row W (w.heap.size + 1) 48 16 t ∧ Row W (w.heap.size + 1 + 1) 48 16 u ∧ Below w.heap.size w W ∧ ((w.alloc (.cells (cs 4 r) 41)).alloc (.cells (cs 16 t) 48)).alloc (.cells (cs 16 u) 48) = W :=
    ⟨_, ((Row.new w _ 4 r).old _).old _, (Row.newAt (w.alloc _) _ 16 t _ (by simp)).old _, Row.newAt ((w.alloc _).alloc _) _ 16 u _ (by simp), below_new (below_new (below_new (Below.refl _ _) _) _) _, rfl⟩
  rw [hW]; clear hW
  refine wp_region_held_drew (S := fun W => Row W w.heap.size 41 4 r ∧ Row W (w.heap.size + 1) 48 16 t ∧ Row W (w.heap.size + 1 + 1) 48 16 u) (by kernel_rfl) ?_ (fun hS => ?_)
  · exact ⟨HX.drew, HT.drew, HU.drew⟩
  refine wpAnyH_take (i := 0) (v := .agg (cs 4 (r))) rfl (by kernel_rfl) (by kernel_rfl) (by kernel_rfl) (fun _ _ _ h => h) (yields_Row (by rfl) _ _ rfl (w.heap.size) rfl (fun _ h => h.1) rel_u rfl rel_i) hS ?_
  simp only [Act.put, List.getElem_toArray, List.getElem_cons_succ, List.getElem_cons_zero, List.setIfInBounds_toArray, List.set_cons_zero, List.set_cons_succ]
  refine wpAnyH_take (i := 2) (v := .agg (cs 16 (t))) rfl (by kernel_rfl) (by kernel_rfl) (by kernel_rfl) (fun _ _ _ h => h) (yields_Row (by rfl) _ _ rfl (w.heap.size + 1) rfl (fun _ h => h.2.1) trans_u rfl trans_i) hS ?_
  simp only [Act.put, List.getElem_toArray, List.getElem_cons_succ, List.getElem_cons_zero, List.setIfInBounds_toArray, List.set_cons_zero, List.set_cons_succ]
  refine wpAnyH_take (i := 4) (v := .agg (cs 16 (u))) rfl (by kernel_rfl) (by kernel_rfl) (by kernel_rfl) (fun _ _ _ h => h) (yields_Row (by rfl) _ _ rfl (w.heap.size + 1 + 1) rfl (fun _ h => h.2.2) trans_u rfl trans_i) hS ?_
  simp only [Act.put, List.getElem_toArray, List.getElem_cons_succ, List.getElem_cons_zero, List.setIfInBounds_toArray, List.set_cons_zero, List.set_cons_succ]
  refine wpAnyH_take (i := 5) (v := .agg (cs 4 (r))) rfl (by kernel_rfl) (by kernel_rfl) (by kernel_rfl) (fun _ _ _ h => h) (yields_Row (by rfl) _ _ rfl (w.heap.size) rfl (fun _ h => h.1) rel_u rfl rel_i) hS ?_
  simp only [Act.put, List.getElem_toArray, List.getElem_cons_succ, List.getElem_cons_zero, List.setIfInBounds_toArray, List.set_cons_zero, List.set_cons_succ]
  refine wpAnyH_ready (rs := [1]) (by kernel_rfl) (by simp) ?_
  refine AllReadyH.cons rfl (fun K hK => ?_) AllReadyH.nil
  rw [if_pos (by rfl)]
  refine op_call 41 _ _ rfl (enters_of Tryz.func41 (by kernel_rfl) rfl) _ (impl_angel r _) rfl ?_
  rintro e w1 ⟨rfl, hb1⟩
  refine ⟨_, rfl, ?_⟩
  refine hK.out _ _ ?_ (fun hS1 => ?_)
  · exact ⟨hS.1.grown hb1, hS.2.1.grown hb1, hS.2.2.grown hb1⟩
  clear hK K
  replace hS := hS1
  clear hS1
  simp only [Act.put, List.getElem_toArray, List.getElem_cons_succ, List.getElem_cons_zero, List.setIfInBounds_toArray, List.set_cons_zero, List.set_cons_succ]
  refine wpAnyH_ready (rs := [3]) (by kernel_rfl) (by simp) ?_
  refine AllReadyH.cons rfl (fun K hK => ?_) AllReadyH.nil
  rw [if_pos (by rfl)]
  refine op_call 42 _ _ rfl (enters_of Tryz.func42 (by kernel_rfl) rfl) _ (impl_then _ _ ht _) rfl ?_
  rintro e w2 ⟨rfl, hb2⟩
  refine ⟨_, rfl, ?_⟩
  refine hK.out _ _ ?_ (fun hS1 => ?_)
  · exact ⟨hS.1.grown hb2, hS.2.1.grown hb2, hS.2.2.grown hb2⟩
  clear hK K
  replace hS := hS1
  clear hS1
  simp only [Act.put, List.getElem_toArray, List.getElem_cons_succ, List.getElem_cons_zero, List.setIfInBounds_toArray, List.set_cons_zero, List.set_cons_succ]
  refine wpAnyH_ready (rs := [6]) (by kernel_rfl) (by simp) ?_
  refine AllReadyH.cons rfl (fun K hK => ?_) AllReadyH.nil
  rw [if_pos (by rfl)]
  refine op_call 41 _ _ rfl (enters_of Tryz.func41 (by kernel_rfl) rfl) _ (impl_angel r _) rfl ?_
  rintro e w3 ⟨rfl, hb3⟩
  refine ⟨_, rfl, ?_⟩
  refine hK.out _ _ ?_ (fun hS1 => ?_)
  · exact ⟨hS.1.grown hb3, hS.2.1.grown hb3, hS.2.2.grown hb3⟩
  clear hK K
  replace hS := hS1
  clear hS1
  simp only [Act.put, List.getElem_toArray, List.getElem_cons_succ, List.getElem_cons_zero, List.setIfInBounds_toArray, List.set_cons_zero, List.set_cons_succ]
  refine wpAnyH_ready (rs := [7]) (by kernel_rfl) (by simp) ?_
  refine AllReadyH.cons rfl (fun K hK => ?_) AllReadyH.nil
  rw [if_pos (by rfl)]
  refine op_call 42 _ _ rfl (enters_of Tryz.func42 (by kernel_rfl) rfl) _ (impl_then _ _ (angelT_ok r) _) rfl ?_
  rintro e w4 ⟨rfl, hb4⟩
  refine ⟨_, rfl, ?_⟩
  refine hK.out _ _ ?_ (fun hS1 => ?_)
  · exact ⟨hS.1.grown hb4, hS.2.1.grown hb4, hS.2.2.grown hb4⟩
  clear hK K
  replace hS := hS1
  clear hS1
  simp only [Act.put, List.getElem_toArray, List.getElem_cons_succ, List.getElem_cons_zero, List.setIfInBounds_toArray, List.set_cons_zero, List.set_cons_succ]
  refine wpAnyH_ready (rs := [8]) (by kernel_rfl) (by simp) ?_
  refine AllReadyH.cons rfl (fun K hK => ?_) AllReadyH.nil
  rw [if_pos (by rfl)]
  refine op_call 29 _ _ rfl (enters_of Tryz.func29 (by kernel_rfl) rfl) _ (impl_refined _ _ _) rfl ?_
  rintro e w5 ⟨rfl, hb5⟩
  refine ⟨_, rfl, ?_⟩
  refine hK.out _ _ ?_ (fun hS1 => ?_)
  · exact ⟨hS.1.grown hb5, hS.2.1.grown hb5, hS.2.2.grown hb5⟩
  clear hK K
  replace hS := hS1
  clear hS1
  simp only [Act.put, List.getElem_toArray, List.getElem_cons_succ, List.getElem_cons_zero, List.setIfInBounds_toArray, List.set_cons_zero, List.set_cons_succ]
  refine wpAnyH_take (i := 9) (v := .bool (refT (thenT (angelT r) t) (thenT u (angelT r)))) rfl (by kernel_rfl) (by kernel_rfl) (by kernel_rfl) (fun _ _ _ h => h) (Or.inl ⟨by rfl, ?_⟩) hS ?_
  · intro w hSw
    go_simp
  simp only [Act.put, List.getElem_toArray, List.getElem_cons_succ, List.getElem_cons_zero, List.setIfInBounds_toArray, List.set_cons_zero, List.set_cons_succ]
  refine wpAnyH_done (by kernel_rfl) ?_ _
  go_wp2_with fail
  go_ret
  exact ⟨rfl, below_step (below_step (below_step (below_step (below_step hb.drew hb1) hb2) hb3) hb4) hb5⟩

/-! ### texts handed on -/
/-- in every world that w has grown to, calling g with two transformers hands back F of them -/
def AsksTT (P : Program) (g : FuncId) (bv lb : Array Value) (F : (Nat → Int) → (Nat → Int) → Nat → Int) (w : World) : Prop :=
  ∀ (W : World) (x y : Nat → Int), Cond x → Cond y → mono x = true → mono y = true → Below w.heap.size w W → Calls P g (bv ++ (#[.agg (cs 16 x), .agg (cs 16 y)] ++ lb)) W fun e W' => e = .returned (.agg (cs 16 (F x y))) ∧ Below W.heap.size W W'
/-- .. with one .. -/
def AsksT (P : Program) (g : FuncId) (bv lb : Array Value) (F : (Nat → Int) → Nat → Int) (w : World) : Prop :=
  ∀ (W : World) (x : Nat → Int), Cond x → mono x = true → Below w.heap.size w W → Calls P g (bv.push (.agg (cs 16 x)) ++ lb) W fun e W' => e = .returned (.agg (cs 16 (F x))) ∧ Below W.heap.size W W'

theorem tabT_mono {s : ByteArray} (h : okTr s = true) : mono (tabT s) = true := by rw [tabT_val h]; exact okTr_mono h

end Go.Proofs.YtaeibhpkcikaaaaGreat
