/- Contracts: the program's functions on conditions and relations. -/
import Derived.Test.YtihmdfhgkfgmnaaSp2
import Derived.RegionTactic
import Derived.BigRegion
import Derived.Deep.QuietTactic
import Derived.BigQuiet
namespace Go.Proofs.Ytihmdfhgkfgmnaa
set_option linter.unusedVariables false
set_option linter.unusedSimpArgs false
open Go.RowKit Go.Shelf
set_option maxRecDepth 100000
set_option maxHeartbeats 1000000

theorem impl_ConditionValid (p : Int) (w : World) : Calls Try.prog 139 #[.int .i64 p] w fun e w' => e = .returned (.bool (isC p)) ∧ w = w' := by
  by_cases h1 : 0 ≤ p
  · have e1 : decide (0 ≤ p) = true := by simpa using h1
    go_enter Try.func139, Try.ntmps139
    go_wp2_with fail
    go_ret
    exact ⟨ret_bool (by simp only [isC, e1, Bool.true_and]), rfl⟩
  · have e1 : decide (0 ≤ p) = false := by simpa using h1
    go_enter Try.func139, Try.ntmps139
    go_wp2_with fail
    go_ret
    exact ⟨ret_bool (by simp only [isC, e1, Bool.false_and]), rfl⟩

theorem impl_rel_has (r : Nat → Int) (s t : Nat) (hs : s < 4) (ht : t < 4) (w : World) :
    Calls Try.prog 105 #[.agg (cs 4 r), .int .i64 s, .int .i64 t] w fun e w' => e = .returned (.bool (has (r s) t)) ∧ Below w.heap.size w w' := by
  go_enter Try.func105, Try.ntmps105
  go_wp2_with fail
  go_ret
  exact ⟨rfl, (Below.refl _ _).alloc (Nat.le_refl _) _⟩

theorem rel_u : Try.prog.underlying 39 = some (.array 4 3) := Try.underlying39
theorem rel_i : (Try.prog.info? 39).map (·.size) = some 4 := by kernel_rfl

theorem impl_readRel (s : ByteArray) (hs : s.size ≤ 4611686018427387904) (w : World) :
    Calls Try.prog 27 #[.string s] w fun e w' => e = .returned (.tuple #[.agg (cs 4 (tab 4 s)), .bool (okTxt 4 s)]) ∧ Below w.heap.size w w' := by
  by_cases hz : s.size = 4
  · have hz2 : 4 ≤ s.size := by omega
    have HZ := Lib.hid hz; clear hz
    have e1 : ((s.size : Int) != 4) = false := by rw [HZ.out]; rfl
    go_enter Try.func27, Try.ntmps27
    go_wp2_with fail
    clear e1
    rw [← cs4_zero]
    go_loopw [11] (fun i wr => ∃ (k : Nat) (f : Nat → Int), k ≤ 4 ∧ i = .int .i64 k ∧ Hid (∀ j, j < k → f j = hx (bt s j) ∧ 0 ≤ f j) ∧ Row wr (w.heap.size + 1) 39 4 f ∧ Row wr w.heap.size 39 4 (fun _ => 0) ∧ Below w.heap.size w wr) (fun i _ => 4 - (intOf i).toNat)
    case atStart => exact ⟨0, fun _ => 0, by omega, rfl, fun j hj => by omega, ⟨heap_alloc2_new _ _ _⟩, ⟨heap_alloc2_old _ _ _⟩, ((Below.refl _ _).alloc (Nat.le_refl _) _).alloc (by simp) _⟩
    case round =>
      obtain ⟨k, f, hk, rfl, H, HR, HR0, hb⟩ := hrel
      by_cases hlt : k < 4
      · have hc := HR.cell k hlt
        have hf := HR.free k
        by_cases hneg : hx (bt s k) < 0
        · go_wp2_with fail
          refine (impl_digitOf _ _).mono ?_
          rintro e w' ⟨rfl, rfl⟩
          go_wp2_with (refine wp_store_Row rfl 39 _ _ rfl w.heap.size rfl (f := fun _ => 0) rfl (HR0.setAt _ _ _ (by omega)) rel_i ?_)
          refine ret_Row_tmp rfl w.heap.size rfl ((HR0.setAt _ _ _ (by omega)).setRow _) rel_u rfl rel_i rfl ⟨?_, ?_⟩
          · have hn : okTxt 4 s = false := by
              rw [Bool.eq_false_iff]; intro h
              have := okTxt_hx h k hlt; omega
            rw [tab_none hn, hn]; rfl
          · exact below_setRow (below_setAt hb _ _ (by omega) _) (Nat.le_refl _) _
        · have hc2 := (HR.set k (hx (bt s k))).cell k hlt
          rw [upd_same] at hc2
          have hneg' : 0 ≤ hx (bt s k) := by omega
          have HN := Lib.hid hneg'
          go_wp2_with fail
          refine (impl_digitOf _ _).mono ?_
          rintro e w' ⟨rfl, rfl⟩
          go_wp2_with fail
          go_roundw
          case rel => exact ⟨k + 1, upd f k (hx (bt s k)), by omega, by go_num, fun j hj => by
            rcases Nat.lt_or_ge j k with h | h
            · rw [upd_other _ _ _ _ (by omega)]; exact H.out j h
            · obtain rfl : j = k := by omega
              rw [upd_same]; exact ⟨rfl, HN.out⟩, HR.set k _, HR0.setAt _ _ _ (by omega), below_setAt hb _ _ (by omega) _⟩
          case measure => simp [intOf]; omega
      · obtain rfl : k = 4 := by omega
        go_wp2_with (first
          | (refine wp_load_Row rfl 39 _ rfl (w.heap.size + 1) rfl HR rel_u rfl rel_i ?_)
          | (refine wp_store_Row rfl 39 _ _ rfl w.heap.size rfl (f := f) rfl HR0 rel_i ?_))
        refine ret_Row_tmp rfl w.heap.size rfl (HR0.setRow _) rel_u rfl rel_i rfl ⟨?_, ?_⟩
        · have hn : okTxt 4 s = true := by
            simp only [okTxt, HZ.out, decide_true, Bool.true_and, List.all_eq_true, List.mem_range, decide_eq_true_eq]
            intro j hj; have := H.out j hj; omega
          rw [tab_val hn, hn]
          rw [cs_ext (f := f) (g := val s) fun j hj => by rw [okTxt_val hn j hj]; exact (H.out j hj).1]; rfl
        · exact below_setRow hb (Nat.le_refl _) _
  · have e1 : ((s.size : Int) != 4) = true := by simp; omega
    have hn : okTxt 4 s = false := by
      rw [Bool.eq_false_iff]; intro h
      exact hz (okTxt_size h)
    have HN := Lib.hid hn; clear hn
    clear hz
    go_enter Try.func27, Try.ntmps27
    go_wp2_with fail
    refine ret_Row_tmp (n := 4) (f := fun _ => 0) rfl w.heap.size rfl ⟨heap_alloc2_old _ _ _⟩ rel_u rfl rel_i rfl ⟨?_, ?_⟩
    · rw [tab_none HN.out, HN.out]; rfl
    · exact ((Below.refl _ _).alloc (Nat.le_refl _) _).alloc (by simp) _

theorem impl_states (g : FuncId) (bv lb : Array Value) (b : Nat → Bool) (w : World) (eg : Enters Try.prog g) (hg : AsksP Try.prog g bv lb 4 b w) :
    Calls Try.prog 49 #[.func (.func g) bv lb] w fun e w' => e = .returned (.int .i64 (mk b 4)) ∧ Below w.heap.size w w' := by
  have eg' : ∀ args w, (callFunc g args).run Try.prog w = .ok (.enter g args) w := eg
  go_enter Try.func49, Try.ntmps49
  go_wp2_with fail
  go_loopw [3, 5] (fun o i wr => ∃ k : Nat, k ≤ 4 ∧ i = .int .i64 k ∧ o = .int .i64 (mk b k) ∧ Below w.heap.size w wr) (fun _ i _ => 4 - (intOf i).toNat)
  case atStart => exact ⟨0, by omega, rfl, rfl, Below.refl _ _⟩
  case round =>
    obtain ⟨k, hk, rfl, rfl, hb⟩ := hrel
    by_cases hlt : k < 4
    · cases hbk : b k
      all_goals
        have H1 := Lib.hid hbk; clear hbk
        go_wp2_with fail
        refine (hg _ k hlt hb).mono ?_
        rintro e w1 ⟨rfl, hb1⟩
        rw [H1.out]
        go_wp2_with fail
        go_roundw
        case rel => exact ⟨k + 1, by omega, by go_num, by simp [mk, orf, H1.out, sh], hb.trans (hb1.mono hb.size)⟩
        case measure => simp [intOf]; omega
    · obtain rfl : k = 4 := by omega
      go_wp2_with fail
      go_ret
      exact ⟨rfl, hb⟩

theorem impl_makeRel (g : FuncId) (bv lb : Array Value) (b : Nat → Nat → Bool) (w : World) (eg : Enters Try.prog g) (hg : AsksR Try.prog g bv lb 4 b w) :
    Calls Try.prog 103 #[.func (.func g) bv lb] w fun e w' => e = .returned (.agg (cs 4 fun s => mk (b s) 4)) ∧ Below w.heap.size w w' := by
  have eg' : ∀ args w, (callFunc g args).run Try.prog w = .ok (.enter g args) w := eg
  go_enter Try.func103, Try.ntmps103
  go_wp2_with fail
  rw [← cs4_zero]
  go_loopw [7] (fun i wr => ∃ (k : Nat) (f : Nat → Int), k ≤ 4 ∧ i = .int .i64 k ∧ Hid (∀ j, j < 4 → f j = if j < k then mk (b j) 4 else 0) ∧ Row wr (w.heap.size + 1) 39 4 f ∧ Row wr w.heap.size 39 4 (fun _ => 0) ∧ Below w.heap.size w wr) (fun i _ => 4 - (intOf i).toNat)
  case atStart => exact ⟨0, fun _ => 0, by omega, rfl, fun j hj => by simp, ⟨heap_alloc2_new _ _ _⟩, ⟨heap_alloc2_old _ _ _⟩, ((Below.refl _ _).alloc (Nat.le_refl _) _).alloc (by simp) _⟩
  case round =>
    obtain ⟨k, f, hk, rfl, H, HR, HR0, hb⟩ := hrel
    by_cases hlt : k < 4
    · have ek : decide ((k : Int) < 4) = true := by rw [decide_eq_true_eq]; omega
      go_wp2_with fail
      obtain ⟨wo, rfl⟩ : ∃ wo : World, wo = wr := ⟨_, rfl⟩
      go_loopw [10] (fun i wr => ∃ (j : Nat), j ≤ 4 ∧ i = .int .i64 j ∧ Row wr (w.heap.size + 1) 39 4 (upd f k (mk (b k) j)) ∧ Row wr w.heap.size 39 4 (fun _ => 0) ∧ Below w.heap.size w wr) (fun i _ => 4 - (intOf i).toNat)
      case atStart => exact ⟨0, by omega, rfl, HR.ext fun j hj => by
        by_cases e : j = k
        · subst e; rw [upd_same, H.out j hj, if_neg (by omega)]; rfl
        · rw [upd_other _ _ _ _ e], HR0, hb⟩
      case round =>
        obtain ⟨j, hj, rfl, HR, HR0, hb⟩ := hrel
        by_cases hjt : j < 4
        · cases hbk : b k j
          all_goals
            have H1 := Lib.hid hbk; clear hbk
            go_wp2_with fail
            refine (hg _ k j hlt hjt hb).mono ?_
            rintro e w1 ⟨rfl, hb1⟩
            rw [H1.out]
            go_wp2_with fail
          · go_roundw
            case rel => exact ⟨j + 1, by omega, by go_num, by rw [show mk (b k) (j + 1) = mk (b k) j by simp [mk, orf, H1.out]]; exact HR.grown hb1, HR0.grown hb1, hb.trans (hb1.mono hb.size)⟩
            case measure => simp [intOf]; omega
          · have hc := (HR.grown hb1).cell k hlt
            rw [upd_same] at hc
            have hf := (HR.grown hb1).free k
            go_region
            go_wp2_with fail
            go_roundw
            case rel => exact ⟨j + 1, by omega, by go_num, Row.drew <| ((HR.grown hb1).set k _).ext fun i _ => by
              by_cases e : i = k
              · subst e; rw [upd_same, upd_same]; simp [mk, orf, H1.out, sh]
              · rw [upd_other _ _ _ _ e, upd_other _ _ _ _ e, upd_other _ _ _ _ e], Row.drew ((HR0.grown hb1).setAt _ _ _ (by omega)), (below_setAt (hb.trans (hb1.mono hb.size)) _ _ (by omega) _).drew⟩
            case measure => simp [intOf]; omega
        · obtain rfl : j = 4 := by omega
          go_wp2_with fail
          go_roundw
          case rel => exact ⟨k + 1, _, by omega, by go_num, fun i hi => by
            by_cases e : i = k
            · subst e; rw [upd_same, if_pos (by omega)]
            · rw [upd_other _ _ _ _ e, H.out i hi]
              by_cases h : i < k
              · rw [if_pos h, if_pos (by omega)]
              · rw [if_neg h, if_neg (by omega)], HR, HR0, hb⟩
          case measure => simp [intOf]; omega
    · obtain rfl : k = 4 := by omega
      go_wp2_with (first
        | (refine wp_load_Row rfl 39 _ rfl (w.heap.size + 1) rfl HR rel_u rfl rel_i ?_)
        | (refine wp_store_Row rfl 39 _ _ rfl w.heap.size rfl (f := f) rfl HR0 rel_i ?_))
      refine ret_Row rfl w.heap.size rfl (HR0.setRow _) rel_u rfl rel_i rfl ⟨?_, below_setRow hb (Nat.le_refl _) _⟩
      exact ret_agg (cs_ext fun j hj => by rw [H.out j hj, if_pos hj])

theorem impl_turned1 (r : Nat → Int) (p : Nat) (w : World) (HR : Row w p 39 4 r) (s t : Nat) (hs : s < 4) (ht : t < 4) :
    Calls Try.prog 104 #[.int .i64 s, .int .i64 t, .pointer (some ⟨p, 0, none⟩)] w fun e w' => e = .returned (.bool (has (r t) s)) ∧ Below w.heap.size w w' := by
  go_enter Try.func104, Try.ntmps104
  go_wp2_with (refine wp_load_Row rfl 39 _ rfl p rfl HR rel_u rfl rel_i ?_)
  refine (impl_rel_has r t s ht hs w).mono ?_
  rintro e w1 ⟨rfl, hb1⟩
  go_wp2_with fail
  go_ret
  exact ⟨rfl, hb1⟩


theorem impl_turned (r : Nat → Int) (w : World) :
    Calls Try.prog 36 #[.agg (cs 4 r)] w fun e w' => e = .returned (.agg (cs 4 (turn r))) ∧ Below w.heap.size w w' := by
  go_enter Try.func36, Try.ntmps36
  go_wp2_with fail
  refine (impl_makeRel _ _ _ (fun s t => has (r t) s) _ (enters_of Try.func104 (by kernel_rfl) rfl) ?_).mono ?_
  · intro W s t hs ht hb
    exact impl_turned1 r _ W ((Row.old (Row.new w _ 4 r) _).grown hb) s t hs ht
  rintro e w1 ⟨rfl, hb1⟩
  rw [← cs4_zero] at hb1
  have HR0 : Row w1 (w.heap.size + 1) 39 4 (fun _ => 0) := Row.grown ⟨heap_alloc2_new _ _ _⟩ hb1
  go_wp2_with (refine wp_store_Row rfl 39 _ _ rfl (w.heap.size + 1) rfl (f := turn r) rfl HR0 rel_i ?_)
  refine ret_Row rfl (w.heap.size + 1) rfl (HR0.setRow _) rel_u rfl rel_i rfl ⟨rfl, below_setRow ?_ (by simp) _⟩
  exact (((Below.refl _ _).alloc (Nat.le_refl _) _).alloc (by simp) _).trans (hb1.mono (by simp; omega))

theorem impl_diamond1 (r : Nat → Int) (p : Int) (b c : Nat) (w : World) (HR : Row w b 39 4 r) (hc : w.cell? ⟨c, 0, none⟩ = some (.int .i64 p)) (s : Nat) (hs : s < 4) :
    Calls Try.prog 106 #[.int .i64 s, .pointer (some ⟨b, 0, none⟩), .pointer (some ⟨c, 0, none⟩)] w fun e w' => e = .returned (.bool (bits .and .i64 (r s) p != 0)) ∧ Below w.heap.size w w' := by
  have h1 := HR.cell s hs
  go_enter Try.func106, Try.ntmps106
  go_wp2_with fail
  go_quiet (fail)
  go_wp2_with fail
  go_ret
  exact ⟨rfl, below_drewN (Below.refl _ _) _⟩

theorem impl_diamond (r : Nat → Int) (p : Int) (w : World) :
    Calls Try.prog 37 #[.agg (cs 4 r), .int .i64 p] w fun e w' => e = .returned (.int .i64 (dia r p)) ∧ Below w.heap.size w w' := by
  go_enter Try.func37, Try.ntmps37
  go_wp2_with fail
  refine (impl_states _ _ _ (fun s => bits .and .i64 (r s) p != 0) _ (enters_of Try.func106 (by kernel_rfl) rfl) ?_).mono ?_
  · intro W s hs hb
    exact impl_diamond1 r p _ _ W ((Row.old (Row.new w _ 4 r) _).grown hb) ((hb.cell (p := ⟨w.heap.size + 1, 0, none⟩) (by simp)).trans (World.cell?_alloc_at _ _ _ _ (by simp))) s hs
  rintro e w1 ⟨rfl, hb1⟩
  go_wp2_with fail
  go_ret
  exact ⟨rfl, (((Below.refl _ _).alloc (Nat.le_refl _) _).alloc (by simp) _).trans (hb1.mono (by simp; omega))⟩

theorem impl_box1 (r : Nat → Int) (p : Int) (b c : Nat) (w : World) (HR : Row w b 39 4 r) (hc : w.cell? ⟨c, 0, none⟩ = some (.int .i64 p)) (s : Nat) (hs : s < 4) :
    Calls Try.prog 149 #[.int .i64 s, .pointer (some ⟨b, 0, none⟩), .pointer (some ⟨c, 0, none⟩)] w fun e w' => e = .returned (.bool (bits .andNot .i64 (r s) p == 0)) ∧ Below w.heap.size w w' := by
  have h1 := HR.cell s hs
  go_enter Try.func149, Try.ntmps149
  go_wp2_with fail
  go_quiet (fail)
  go_wp2_with fail
  go_ret
  exact ⟨rfl, below_drewN (Below.refl _ _) _⟩

theorem impl_box (r : Nat → Int) (p : Int) (w : World) :
    Calls Try.prog 134 #[.agg (cs 4 r), .int .i64 p] w fun e w' => e = .returned (.int .i64 (box r p)) ∧ Below w.heap.size w w' := by
  go_enter Try.func134, Try.ntmps134
  go_wp2_with fail
  refine (impl_states _ _ _ (fun s => bits .andNot .i64 (r s) p == 0) _ (enters_of Try.func149 (by kernel_rfl) rfl) ?_).mono ?_
  · intro W s hs hb
    exact impl_box1 r p _ _ W ((Row.old (Row.new w _ 4 r) _).grown hb) ((hb.cell (p := ⟨w.heap.size + 1, 0, none⟩) (by simp)).trans (World.cell?_alloc_at _ _ _ _ (by simp))) s hs
  rintro e w1 ⟨rfl, hb1⟩
  go_wp2_with fail
  go_ret
  exact ⟨rfl, (((Below.refl _ _).alloc (Nat.le_refl _) _).alloc (by simp) _).trans (hb1.mono (by simp; omega))⟩


theorem impl_rel_then (r q : Nat → Int) (w : World) :
    Calls Try.prog 41 #[.agg (cs 4 r), .agg (cs 4 q)] w fun e w' => e = .returned (.agg (cs 4 (comp r q))) ∧ Below w.heap.size w w' := by
  go_enter Try.func41, Try.ntmps41
  go_wp2_with fail
  rw [← cs4_zero]
  go_loopw [9] (fun i wr => ∃ (k : Nat) (f : Nat → Int), k ≤ 4 ∧ i = .int .i64 k ∧ Hid (∀ j, j < 4 → f j = if j < k then comp r q j else 0) ∧ Row wr (w.heap.size + 3) 39 4 f ∧ Row wr (w.heap.size + 2) 39 4 (fun _ => 0) ∧ Row wr (w.heap.size + 1) 39 4 q ∧ Row wr w.heap.size 39 4 r ∧ Below w.heap.size w wr) (fun i _ => 4 - (intOf i).toNat)
  case atStart => exact ⟨0, fun _ => 0, by omega, rfl, fun j hj => by simp, by simpa using Row.new (((w.alloc _).alloc _).alloc _) _ 4 _, by simpa using (Row.new ((w.alloc _).alloc _) _ 4 _).old _, by simpa using ((Row.new (w.alloc _) _ 4 q).old _).old _, (((Row.new w _ 4 r).old _).old _).old _, ((((Below.refl _ _).alloc (Nat.le_refl _) _).alloc (by simp) _).alloc (by simp; omega) _).alloc (by simp; omega) _⟩
  case round =>
    obtain ⟨k, f, hk, rfl, H, HR, HR0, HQ, HX, hb⟩ := hrel
    by_cases hlt : k < 4
    · have ek : decide ((k : Int) < 4) = true := by rw [decide_eq_true_eq]; omega
      go_wp2_with fail
      obtain ⟨wo, rfl⟩ : ∃ wo : World, wo = wr := ⟨_, rfl⟩
      go_loopw [12] (fun i wr => ∃ (j : Nat), j ≤ 4 ∧ i = .int .i64 j ∧ Row wr (w.heap.size + 3) 39 4 (upd f k (orf (has (r k)) q j)) ∧ Row wr (w.heap.size + 2) 39 4 (fun _ => 0) ∧ Row wr (w.heap.size + 1) 39 4 q ∧ Row wr w.heap.size 39 4 r ∧ Below w.heap.size w wr) (fun i _ => 4 - (intOf i).toNat)
      case atStart => exact ⟨0, by omega, rfl, HR.ext fun j hj => by
        by_cases e : j = k
        · subst e; rw [upd_same, H.out j hj, if_neg (by omega)]; rfl
        · rw [upd_other _ _ _ _ e], HR0, HQ, HX, hb⟩
      case round =>
        obtain ⟨j, hj, rfl, HR, HR0, HQ, HX, hb⟩ := hrel
        by_cases hjt : j < 4
        · cases hbk : has (r k) j
          all_goals
            have H1 := Lib.hid hbk; clear hbk
            go_wp2_with (refine wp_load_Row rfl 39 _ rfl w.heap.size rfl HX rel_u rfl rel_i ?_)
            refine (impl_rel_has r k j hlt hjt _).mono ?_
            rintro e w1 ⟨rfl, hb1⟩
            rw [H1.out]
            go_wp2_with fail
          · go_roundw
            case rel => exact ⟨j + 1, by omega, by go_num, by rw [show orf (has (r k)) q (j + 1) = orf (has (r k)) q j by simp [orf, H1.out]]; exact HR.grown hb1, HR0.grown hb1, HQ.grown hb1, HX.grown hb1, hb.trans (hb1.mono hb.size)⟩
            case measure => simp [intOf]; omega
          · have hc := (HR.grown hb1).cell k hlt
            rw [upd_same] at hc
            have hf := (HR.grown hb1).free k
            have hq := (HQ.grown hb1).cell j hjt
            go_region
            go_wp2_with fail
            go_roundw
            case rel => exact ⟨j + 1, by omega, by go_num, Row.drew <| ((HR.grown hb1).set k _).ext fun i _ => by
              by_cases e : i = k
              · subst e; rw [upd_same, upd_same]; simp [orf, H1.out]
              · rw [upd_other _ _ _ _ e, upd_other _ _ _ _ e, upd_other _ _ _ _ e], Row.drew ((HR0.grown hb1).setAt _ _ _ (by omega)), Row.drew ((HQ.grown hb1).setAt _ _ _ (by omega)), Row.drew ((HX.grown hb1).setAt _ _ _ (by omega)), (below_setAt (hb.trans (hb1.mono hb.size)) _ _ (by omega) _).drew⟩
            case measure => simp [intOf]; omega
        · obtain rfl : j = 4 := by omega
          go_wp2_with fail
          go_roundw
          case rel => exact ⟨k + 1, _, by omega, by go_num, fun i hi => by
            by_cases e : i = k
            · subst e; rw [upd_same, if_pos (by omega)]; rfl
            · rw [upd_other _ _ _ _ e, H.out i hi]
              by_cases h : i < k
              · rw [if_pos h, if_pos (by omega)]
              · rw [if_neg h, if_neg (by omega)], HR, HR0, HQ, HX, hb⟩
          case measure => simp [intOf]; omega
    · obtain rfl : k = 4 := by omega
      go_wp2_with (first
        | (refine wp_load_Row rfl 39 _ rfl (w.heap.size + 3) rfl HR rel_u rfl rel_i ?_)
        | (refine wp_store_Row rfl 39 _ _ rfl (w.heap.size + 2) rfl (f := f) rfl HR0 rel_i ?_))
      refine ret_Row rfl (w.heap.size + 2) rfl (HR0.setRow _) rel_u rfl rel_i rfl ⟨?_, below_setRow hb (by omega) _⟩
      exact ret_agg (cs_ext fun j hj => by rw [H.out j hj, if_pos hj])

theorem impl_rel_text (r : Nat → Int) (hr : Cond r) (w : World) :
    Calls Try.prog 42 #[.agg (cs 4 r)] w fun e w' => e = .returned (.string (txt 4 r)) ∧ Below w.heap.size w w' := by
  go_enter Try.func42, Try.ntmps42
  go_wp2_with (refine wp_load_Row rfl 39 _ rfl w.heap.size rfl (Row.new w 39 4 r) rel_u rfl rel_i ?_)
  go_loop [3, 7] (fun o i => ∃ k : Nat, k ≤ 4 ∧ i = .int .i64 k ∧ o = .string (txt k r)) (fun _ i => 4 - (intOf i).toNat)
  case atStart => exact ⟨0, by omega, rfl, rfl⟩
  case round =>
    obtain ⟨k, hk, rfl, rfl⟩ := hrel
    by_cases hlt : k < 4
    · have hx := fun W => run_index_cs (P := Try.prog) W 39 3 4 r k .i64 hlt rel_u Try.underlying3 (by kernel_rfl)
      go_wp2_with fail
      refine (impl_digit _ _ (hr k).1 (hr k).2).mono ?_
      rintro e w' ⟨rfl, rfl⟩
      go_wp2_with fail
      go_round
      case rel => exact ⟨k + 1, by omega, by go_num, congrArg Value.string (txt_succ k r)⟩
      case measure => simp [intOf]; omega
    · obtain rfl : k = 4 := by omega
      go_wp2_with fail
      go_ret
      exact ⟨rfl, (Below.refl _ _).alloc (Nat.le_refl _) _⟩
end Go.Proofs.Ytihmdfhgkfgmnaa
