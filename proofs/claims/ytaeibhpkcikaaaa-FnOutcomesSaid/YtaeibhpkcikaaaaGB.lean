/- Contracts: the reference's functions on conditions and relations. -/
import Derived.Test.YtaeibhpkcikaaaaGA
import Derived.RegionTactic
import Derived.BigRegion
import Derived.Deep.QuietTactic
import Derived.BigQuiet
/- Sp2 -/
namespace Go.Proofs.Ytaeibhpkcikaaaa
set_option linter.unusedVariables false
set_option linter.unusedSimpArgs false
open Go.RowKit Go.Shelf
set_option maxRecDepth 100000
set_option maxHeartbeats 1000000

theorem spec_l1In (n a b : Int) (w : World) : Calls Try.prog 102 #[.int .i64 n, .int .i64 a, .int .i64 b] w fun e w' => e = .returned (.bool (decide (a ≤ n) && decide (n ≤ b))) ∧ w = w' := by
  by_cases h1 : a ≤ n
  · have e1 : decide (a ≤ n) = true := by simpa using h1
    go_enter Try.func102, Try.ntmps102
    go_wp2_with fail
    go_ret
    exact ⟨ret_bool (by simp [h1]), rfl⟩
  · have e1 : decide (a ≤ n) = false := by simpa using h1
    go_enter Try.func102, Try.ntmps102
    go_wp2_with fail
    go_ret
    exact ⟨rfl, rfl⟩

/-- is p a condition? -/
def isC (p : Int) : Bool := decide (0 ≤ p) && decide (p ≤ 15)
theorem isC_mk {p : Int} (h : 0 ≤ p ∧ p ≤ 15) : isC p = true := by simp [isC, h.1, h.2]
theorem isC_get {p : Int} (h : isC p = true) : 0 ≤ p ∧ p ≤ 15 := by simpa [isC] using h

theorem spec_l1Has (p : Int) (k : Nat) (w : World) (hk : k ≤ 63) : Calls Try.prog 99 #[.int .i64 p, .int .i64 k] w fun e w' => e = .returned (.bool (has p k)) ∧ w = w' := by
  go_enter Try.func99, Try.ntmps99
  go_wp2_with fail
  go_ret
  exact ⟨rfl, rfl⟩

theorem spec_RelValid (s : ByteArray) (w : World) (hs : s.size ≤ 4611686018427387904) : Calls Try.prog 116 #[.string s] w fun e w' => e = .returned (.bool (okTxt 4 s)) ∧ w = w' := by
  go_enter Try.func116, Try.ntmps116
  go_wp2_with fail
  refine (spec_l2Digits _ _ _ hs (by decide)).mono ?_
  rintro e w' ⟨rfl, rfl⟩
  go_wp2_with fail
  go_ret
  exact ⟨rfl, rfl⟩

theorem spec_l2To (s : ByteArray) (n k : Nat) (w : World) (H : Hid (okTxt n s = true)) (hk : k < n) : Calls Try.prog 100 #[.string s, .int .i64 k] w fun e w' => e = .returned (.int .i64 (val s k)) ∧ w = w' := by
  have hsz : k < s.size := by rw [okTxt_size H.out]; exact hk
  go_enter Try.func100, Try.ntmps100
  go_wp2_with fail
  refine (spec_l2Hex _ _).mono ?_
  rintro e w' ⟨rfl, rfl⟩
  go_wp2_with fail
  go_ret
  exact ⟨ret_int (okTxt_val H.out k hk).symm, rfl⟩

theorem spec_l2Image (r : ByteArray) (p : Int) (w : World) (H : Hid (okTxt 4 r = true)) : Calls Try.prog 122 #[.string r, .int .i64 p] w fun e w' => e = .returned (.int .i64 (img (val r) p)) ∧ w = w' := by
  go_enter Try.func122, Try.ntmps122
  go_wp2_with fail
  go_loop [5, 6] (fun o i => ∃ k : Nat, k ≤ 4 ∧ i = .int .i64 k ∧ o = .int .i64 (orf (has p) (val r) k)) (fun _ i => 4 - (intOf i).toNat)
  case atStart => exact ⟨0, by omega, rfl, rfl⟩
  case round =>
    obtain ⟨k, hk, rfl, rfl⟩ := hrel
    by_cases hlt : k < 4
    · cases hb : has p k
      all_goals
        have H1 := Lib.hid hb; clear hb
        go_wp2_with fail
        refine (spec_l1Has _ _ _ (by omega)).mono ?_
        rintro e w' ⟨rfl, rfl⟩
        rw [H1.out]
      · go_wp2_with fail
        go_round
        case rel => exact ⟨k + 1, by omega, by go_num, by simp [orf, H1.out]⟩
        case measure => simp [intOf]; omega
      · go_wp2_with fail
        refine (spec_l2To _ 4 _ _ H hlt).mono ?_
        rintro e w' ⟨rfl, rfl⟩
        go_wp2_with fail
        go_round
        case rel => exact ⟨k + 1, by omega, by go_num, by simp [orf, H1.out]⟩
        case measure => simp [intOf]; omega
    · obtain rfl : k = 4 := by omega
      go_wp2_with fail
      go_ret
      exact ⟨rfl, rfl⟩

theorem spec_l2Diamond (r : ByteArray) (p : Int) (w : World) (H : Hid (okTxt 4 r = true)) : Calls Try.prog 120 #[.string r, .int .i64 p] w fun e w' => e = .returned (.int .i64 (dia (val r) p)) ∧ w = w' := by
  go_enter Try.func120, Try.ntmps120
  go_wp2_with fail
  go_loop [5, 6] (fun o i => ∃ k : Nat, k ≤ 4 ∧ i = .int .i64 k ∧ o = .int .i64 (mk (fun s => bits .and .i64 (val r s) p != 0) k)) (fun _ i => 4 - (intOf i).toNat)
  case atStart => exact ⟨0, by omega, rfl, rfl⟩
  case round =>
    obtain ⟨k, hk, rfl, rfl⟩ := hrel
    by_cases hlt : k < 4
    · cases hb : (bits .and .i64 (val r k) p != 0)
      all_goals
        have H1 := Lib.hid hb; clear hb
        go_wp2_with fail
        refine (spec_l2To _ 4 _ _ H hlt).mono ?_
        rintro e w' ⟨rfl, rfl⟩
        have e1 := H1.out
        go_wp2_with fail
        go_round
        case rel => exact ⟨k + 1, by omega, by go_num, by simp [mk, orf, H1.out, sh]⟩
        case measure => simp [intOf]; omega
    · obtain rfl : k = 4 := by omega
      go_wp2_with fail
      go_ret
      exact ⟨rfl, rfl⟩

theorem spec_l2Turn (r : ByteArray) (w : World) (H : Hid (okTxt 4 r = true)) : Calls Try.prog 124 #[.string r] w fun e w' => e = .returned (.string (txt 4 fun t => dia (val r) (sh t))) ∧ w = w' := by
  go_enter Try.func124, Try.ntmps124
  go_wp2_with fail
  go_loop [3, 4] (fun o i => ∃ k : Nat, k ≤ 4 ∧ i = .int .i64 k ∧ o = .string (txt k fun t => dia (val r) (sh t))) (fun _ i => 4 - (intOf i).toNat)
  case atStart => exact ⟨0, by omega, rfl, rfl⟩
  case round =>
    obtain ⟨k, hk, rfl, rfl⟩ := hrel
    by_cases hlt : k < 4
    · go_wp2_with fail
      refine (spec_l2Diamond _ _ _ H).mono ?_
      rintro e w' ⟨rfl, rfl⟩
      go_wp2_with fail
      refine (spec_l2Digit _ _ (dia_ok _ _).1 (dia_ok _ _).2).mono ?_
      rintro e w' ⟨rfl, rfl⟩
      go_wp2_with fail
      go_round
      case rel => exact ⟨k + 1, by omega, by go_num, congrArg Value.string (txt_succ k fun t => dia (val r) (sh t))⟩
      case measure => simp [intOf]; omega
    · obtain rfl : k = 4 := by omega
      go_wp2_with fail
      go_ret
      exact ⟨rfl, rfl⟩

theorem spec_l2Compose (r q : ByteArray) (w : World) (H : Hid (okTxt 4 r = true)) (H2 : Hid (okTxt 4 q = true)) : Calls Try.prog 123 #[.string r, .string q] w fun e w' => e = .returned (.string (txt 4 fun s => img (val q) (val r s))) ∧ w = w' := by
  go_enter Try.func123, Try.ntmps123
  go_wp2_with fail
  go_loop [5, 6] (fun o i => ∃ k : Nat, k ≤ 4 ∧ i = .int .i64 k ∧ o = .string (txt k fun s => img (val q) (val r s))) (fun _ i => 4 - (intOf i).toNat)
  case atStart => exact ⟨0, by omega, rfl, rfl⟩
  case round =>
    obtain ⟨k, hk, rfl, rfl⟩ := hrel
    by_cases hlt : k < 4
    · go_wp2_with fail
      refine (spec_l2To _ 4 _ _ H hlt).mono ?_
      rintro e w' ⟨rfl, rfl⟩
      go_wp2_with fail
      refine (spec_l2Image _ _ _ H2).mono ?_
      rintro e w' ⟨rfl, rfl⟩
      go_wp2_with fail
      refine (spec_l2Digit _ _ (img_ok (val_ok _) _).1 (img_ok (val_ok _) _).2).mono ?_
      rintro e w' ⟨rfl, rfl⟩
      go_wp2_with fail
      go_round
      case rel => exact ⟨k + 1, by omega, by go_num, congrArg Value.string (txt_succ k fun s => img (val q) (val r s))⟩
      case measure => simp [intOf]; omega
    · obtain rfl : k = 4 := by omega
      go_wp2_with fail
      go_ret
      exact ⟨rfl, rfl⟩

end Go.Proofs.Ytaeibhpkcikaaaa

/- Im2 -/
namespace Go.Proofs.Ytaeibhpkcikaaaa
set_option linter.unusedVariables false
set_option linter.unusedSimpArgs false
open Go.RowKit Go.Shelf
set_option maxRecDepth 100000
set_option maxHeartbeats 1000000

theorem impl_ConditionValid (p : Int) (w : World) : Calls Try.prog 80 #[.int .i64 p] w fun e w' => e = .returned (.bool (isC p)) ∧ w = w' := by
  by_cases h1 : 0 ≤ p
  · have e1 : decide (0 ≤ p) = true := by simpa using h1
    go_enter Try.func80, Try.ntmps80
    go_wp2_with fail
    go_ret
    exact ⟨ret_bool (by simp only [isC, e1, Bool.true_and]), rfl⟩
  · have e1 : decide (0 ≤ p) = false := by simpa using h1
    go_enter Try.func80, Try.ntmps80
    go_wp2_with fail
    go_ret
    exact ⟨ret_bool (by simp only [isC, e1, Bool.false_and]), rfl⟩

theorem impl_rel_has (r : Nat → Int) (s t : Nat) (hs : s < 4) (ht : t < 4) (w : World) :
    Calls Try.prog 98 #[.agg (cs 4 r), .int .i64 s, .int .i64 t] w fun e w' => e = .returned (.bool (has (r s) t)) ∧ Below w.heap.size w w' := by
  go_enter Try.func98, Try.ntmps98
  go_wp2_with fail
  go_ret
  exact ⟨rfl, (Below.refl _ _).alloc (Nat.le_refl _) _⟩

theorem rel_u : Try.prog.underlying 76 = some (.array 4 3) := Try.underlying76
theorem rel_i : (Try.prog.info? 76).map (·.size) = some 4 := by kernel_rfl

theorem impl_readRel (s : ByteArray) (hs : s.size ≤ 4611686018427387904) (w : World) :
    Calls Try.prog 65 #[.string s] w fun e w' => e = .returned (.tuple #[.agg (cs 4 (tab 4 s)), .bool (okTxt 4 s)]) ∧ Below w.heap.size w w' := by
  by_cases hz : s.size = 4
  · have hz2 : 4 ≤ s.size := by omega
    have HZ := Lib.hid hz; clear hz
    have e1 : ((s.size : Int) != 4) = false := by rw [HZ.out]; rfl
    go_enter Try.func65, Try.ntmps65
    go_wp2_with fail
    clear e1
    rw [← cs4_zero]
    go_loopw [11] (fun i wr => ∃ (k : Nat) (f : Nat → Int), k ≤ 4 ∧ i = .int .i64 k ∧ Hid (∀ j, j < k → f j = hx (bt s j) ∧ 0 ≤ f j) ∧ Row wr (w.heap.size + 1) 76 4 f ∧ Row wr w.heap.size 76 4 (fun _ => 0) ∧ Below w.heap.size w wr) (fun i _ => 4 - (intOf i).toNat)
    case atStart => exact ⟨0, fun _ => 0, by omega, rfl, fun j hj => by omega, ⟨heap_alloc2_new _ _ _⟩, ⟨heap_alloc2_old _ _ _⟩, ((Below.refl _ _).alloc (Nat.le_refl _) _).alloc (by simp) _⟩
    case round =>
      obtain ⟨k, f, hk, rfl, H, HR, HR0, hb⟩ := hrel
      by_cases hlt : k < 4
      · have hc := HR.cell k hlt
        have hf := HR.free k
        by_cases hneg : hx (bt s k) < 0
        · go_wp2_with fail
          refine (impl_digitOf _ _).mono ?_
          rintro e w' ⟨rfl, rfl⟩
          go_wp2_with (refine wp_store_Row rfl 76 _ _ rfl w.heap.size rfl (f := fun _ => 0) rfl (HR0.setAt _ _ _ (by omega)) rel_i ?_)
          refine ret_Row_tmp rfl w.heap.size rfl ((HR0.setAt _ _ _ (by omega)).setRow _) rel_u rfl rel_i rfl ⟨?_, ?_⟩
          · have hn : okTxt 4 s = false := by
              rw [Bool.eq_false_iff]; intro h
              have := okTxt_hx h k hlt; omega
            rw [tab_none hn, hn]; rfl
          · exact below_setRow (below_setAt hb _ _ (by omega) _) (Nat.le_refl _) _
        · have hc2 := (HR.set k (hx (bt s k))).cell k hlt
          rw [upd_same] at hc2
          have hneg' : 0 ≤ hx (bt s k) := by omega
          have HN := Lib.hid hneg'
          go_wp2_with fail
          refine (impl_digitOf _ _).mono ?_
          rintro e w' ⟨rfl, rfl⟩
          go_wp2_with fail
          go_roundw
          case rel => exact ⟨k + 1, upd f k (hx (bt s k)), by omega, by go_num, fun j hj => by
            rcases Nat.lt_or_ge j k with h | h
            · rw [upd_other _ _ _ _ (by omega)]; exact H.out j h
            · obtain rfl : j = k := by omega
              rw [upd_same]; exact ⟨rfl, HN.out⟩, HR.set k _, HR0.setAt _ _ _ (by omega), below_setAt hb _ _ (by omega) _⟩
          case measure => simp [intOf]; omega
      · obtain rfl : k = 4 := by omega
        go_wp2_with (first
          | (refine wp_load_Row rfl 76 _ rfl (w.heap.size + 1) rfl HR rel_u rfl rel_i ?_)
          | (refine wp_store_Row rfl 76 _ _ rfl w.heap.size rfl (f := f) rfl HR0 rel_i ?_))
        refine ret_Row_tmp rfl w.heap.size rfl (HR0.setRow _) rel_u rfl rel_i rfl ⟨?_, ?_⟩
        · have hn : okTxt 4 s = true := by
            simp only [okTxt, HZ.out, decide_true, Bool.true_and, List.all_eq_true, List.mem_range, decide_eq_true_eq]
            intro j hj; have := H.out j hj; omega
          rw [tab_val hn, hn]
          rw [cs_ext (f := f) (g := val s) fun j hj => by rw [okTxt_val hn j hj]; exact (H.out j hj).1]; rfl
        · exact below_setRow hb (Nat.le_refl _) _
  · have e1 : ((s.size : Int) != 4) = true := by simp; omega
    have hn : okTxt 4 s = false := by
      rw [Bool.eq_false_iff]; intro h
      exact hz (okTxt_size h)
    have HN := Lib.hid hn; clear hn
    clear hz
    go_enter Try.func65, Try.ntmps65
    go_wp2_with fail
    refine ret_Row_tmp (n := 4) (f := fun _ => 0) rfl w.heap.size rfl ⟨heap_alloc2_old _ _ _⟩ rel_u rfl rel_i rfl ⟨?_, ?_⟩
    · rw [tab_none HN.out, HN.out]; rfl
    · exact ((Below.refl _ _).alloc (Nat.le_refl _) _).alloc (by simp) _

theorem impl_states (g : FuncId) (bv lb : Array Value) (b : Nat → Bool) (w : World) (eg : Enters Try.prog g) (hg : AsksP Try.prog g bv lb 4 b w) :
    Calls Try.prog 112 #[.func (.func g) bv lb] w fun e w' => e = .returned (.int .i64 (mk b 4)) ∧ Below w.heap.size w w' := by
  have eg' : ∀ args w, (callFunc g args).run Try.prog w = .ok (.enter g args) w := eg
  go_enter Try.func112, Try.ntmps112
  go_wp2_with fail
  go_loopw [3, 5] (fun o i wr => ∃ k : Nat, k ≤ 4 ∧ i = .int .i64 k ∧ o = .int .i64 (mk b k) ∧ Below w.heap.size w wr) (fun _ i _ => 4 - (intOf i).toNat)
  case atStart => exact ⟨0, by omega, rfl, rfl, Below.refl _ _⟩
  case round =>
    obtain ⟨k, hk, rfl, rfl, hb⟩ := hrel
    by_cases hlt : k < 4
    · cases hbk : b k
      all_goals
        have H1 := Lib.hid hbk; clear hbk
        go_wp2_with fail
        refine (hg _ k hlt hb).mono ?_
        rintro e w1 ⟨rfl, hb1⟩
        rw [H1.out]
        go_wp2_with fail
        go_roundw
        case rel => exact ⟨k + 1, by omega, by go_num, by simp [mk, orf, H1.out, sh], hb.trans (hb1.mono hb.size)⟩
        case measure => simp [intOf]; omega
    · obtain rfl : k = 4 := by omega
      go_wp2_with fail
      go_ret
      exact ⟨rfl, hb⟩

theorem impl_makeRel (g : FuncId) (bv lb : Array Value) (b : Nat → Nat → Bool) (w : World) (eg : Enters Try.prog g) (hg : AsksR Try.prog g bv lb 4 b w) :
    Calls Try.prog 52 #[.func (.func g) bv lb] w fun e w' => e = .returned (.agg (cs 4 fun s => mk (b s) 4)) ∧ Below w.heap.size w w' := by
  have eg' : ∀ args w, (callFunc g args).run Try.prog w = .ok (.enter g args) w := eg
  go_enter Try.func52, Try.ntmps52
  go_wp2_with fail
  rw [← cs4_zero]
  go_loopw [7] (fun i wr => ∃ (k : Nat) (f : Nat → Int), k ≤ 4 ∧ i = .int .i64 k ∧ Hid (∀ j, j < 4 → f j = if j < k then mk (b j) 4 else 0) ∧ Row wr (w.heap.size + 1) 76 4 f ∧ Row wr w.heap.size 76 4 (fun _ => 0) ∧ Below w.heap.size w wr) (fun i _ => 4 - (intOf i).toNat)
  case atStart => exact ⟨0, fun _ => 0, by omega, rfl, fun j hj => by simp, ⟨heap_alloc2_new _ _ _⟩, ⟨heap_alloc2_old _ _ _⟩, ((Below.refl _ _).alloc (Nat.le_refl _) _).alloc (by simp) _⟩
  case round =>
    obtain ⟨k, f, hk, rfl, H, HR, HR0, hb⟩ := hrel
    by_cases hlt : k < 4
    · have ek : decide ((k : Int) < 4) = true := by rw [decide_eq_true_eq]; omega
      go_wp2_with fail
      obtain ⟨wo, rfl⟩ : ∃ wo : World, wo = wr := ⟨_, rfl⟩
      go_loopw [10] (fun i wr => ∃ (j : Nat), j ≤ 4 ∧ i = .int .i64 j ∧ Row wr (w.heap.size + 1) 76 4 (upd f k (mk (b k) j)) ∧ Row wr w.heap.size 76 4 (fun _ => 0) ∧ Below w.heap.size w wr) (fun i _ => 4 - (intOf i).toNat)
      case atStart => exact ⟨0, by omega, rfl, HR.ext fun j hj => by
        by_cases e : j = k
        · subst e; rw [upd_same, H.out j hj, if_neg (by omega)]; rfl
        · rw [upd_other _ _ _ _ e], HR0, hb⟩
      case round =>
        obtain ⟨j, hj, rfl, HR, HR0, hb⟩ := hrel
        by_cases hjt : j < 4
        · cases hbk : b k j
          all_goals
            have H1 := Lib.hid hbk; clear hbk
            go_wp2_with fail
            refine (hg _ k j hlt hjt hb).mono ?_
            rintro e w1 ⟨rfl, hb1⟩
            rw [H1.out]
            go_wp2_with fail
          · go_roundw
            case rel => exact ⟨j + 1, by omega, by go_num, by rw [show mk (b k) (j + 1) = mk (b k) j by simp [mk, orf, H1.out]]; exact HR.grown hb1, HR0.grown hb1, hb.trans (hb1.mono hb.size)⟩
            case measure => simp [intOf]; omega
          · have hc := (HR.grown hb1).cell k hlt
            rw [upd_same] at hc
            have hf := (HR.grown hb1).free k
            go_region
            go_wp2_with fail
            go_roundw
            case rel => exact ⟨j + 1, by omega, by go_num, Row.drew <| ((HR.grown hb1).set k _).ext fun i _ => by
              by_cases e : i = k
              · subst e; rw [upd_same, upd_same]; simp [mk, orf, H1.out, sh]
              · rw [upd_other _ _ _ _ e, upd_other _ _ _ _ e, upd_other _ _ _ _ e], Row.drew ((HR0.grown hb1).setAt _ _ _ (by omega)), (below_setAt (hb.trans (hb1.mono hb.size)) _ _ (by omega) _).drew⟩
            case measure => simp [intOf]; omega
        · obtain rfl : j = 4 := by omega
          go_wp2_with fail
          go_roundw
          case rel => exact ⟨k + 1, _, by omega, by go_num, fun i hi => by
            by_cases e : i = k
            · subst e; rw [upd_same, if_pos (by omega)]
            · rw [upd_other _ _ _ _ e, H.out i hi]
              by_cases h : i < k
              · rw [if_pos h, if_pos (by omega)]
              · rw [if_neg h, if_neg (by omega)], HR, HR0, hb⟩
          case measure => simp [intOf]; omega
    · obtain rfl : k = 4 := by omega
      go_wp2_with (first
        | (refine wp_load_Row rfl 76 _ rfl (w.heap.size + 1) rfl HR rel_u rfl rel_i ?_)
        | (refine wp_store_Row rfl 76 _ _ rfl w.heap.size rfl (f := f) rfl HR0 rel_i ?_))
      refine ret_Row rfl w.heap.size rfl (HR0.setRow _) rel_u rfl rel_i rfl ⟨?_, below_setRow hb (Nat.le_refl _) _⟩
      exact ret_agg (cs_ext fun j hj => by rw [H.out j hj, if_pos hj])

theorem impl_turned1 (r : Nat → Int) (p : Nat) (w : World) (HR : Row w p 76 4 r) (s t : Nat) (hs : s < 4) (ht : t < 4) :
    Calls Try.prog 111 #[.int .i64 s, .int .i64 t, .pointer (some ⟨p, 0, none⟩)] w fun e w' => e = .returned (.bool (has (r t) s)) ∧ Below w.heap.size w w' := by
  go_enter Try.func111, Try.ntmps111
  go_wp2_with (refine wp_load_Row rfl 76 _ rfl p rfl HR rel_u rfl rel_i ?_)
  refine (impl_rel_has r t s ht hs w).mono ?_
  rintro e w1 ⟨rfl, hb1⟩
  go_wp2_with fail
  go_ret
  exact ⟨rfl, hb1⟩


theorem impl_turned (r : Nat → Int) (w : World) :
    Calls Try.prog 67 #[.agg (cs 4 r)] w fun e w' => e = .returned (.agg (cs 4 (turn r))) ∧ Below w.heap.size w w' := by
  go_enter Try.func67, Try.ntmps67
  go_wp2_with fail
  refine (impl_makeRel _ _ _ (fun s t => has (r t) s) _ (enters_of Try.func111 (by kernel_rfl) rfl) ?_).mono ?_
  · intro W s t hs ht hb
    exact impl_turned1 r _ W ((Row.old (Row.new w _ 4 r) _).grown hb) s t hs ht
  rintro e w1 ⟨rfl, hb1⟩
  rw [← cs4_zero] at hb1
  have HR0 : Row w1 (w.heap.size + 1) 76 4 (fun _ => 0) := Row.grown ⟨heap_alloc2_new _ _ _⟩ hb1
  go_wp2_with (refine wp_store_Row rfl 76 _ _ rfl (w.heap.size + 1) rfl (f := turn r) rfl HR0 rel_i ?_)
  refine ret_Row rfl (w.heap.size + 1) rfl (HR0.setRow _) rel_u rfl rel_i rfl ⟨rfl, below_setRow ?_ (by simp) _⟩
  exact (((Below.refl _ _).alloc (Nat.le_refl _) _).alloc (by simp) _).trans (hb1.mono (by simp; omega))

theorem impl_diamond1 (r : Nat → Int) (p : Int) (b c : Nat) (w : World) (HR : Row w b 76 4 r) (hc : w.cell? ⟨c, 0, none⟩ = some (.int .i64 p)) (s : Nat) (hs : s < 4) :
    Calls Try.prog 113 #[.int .i64 s, .pointer (some ⟨b, 0, none⟩), .pointer (some ⟨c, 0, none⟩)] w fun e w' => e = .returned (.bool (bits .and .i64 (r s) p != 0)) ∧ Below w.heap.size w w' := by
  have h1 := HR.cell s hs
  go_enter Try.func113, Try.ntmps113
  go_wp2_with fail
  go_quiet (fail)
  go_wp2_with fail
  go_ret
  exact ⟨rfl, below_drewN (Below.refl _ _) _⟩

theorem impl_diamond (r : Nat → Int) (p : Int) (w : World) :
    Calls Try.prog 68 #[.agg (cs 4 r), .int .i64 p] w fun e w' => e = .returned (.int .i64 (dia r p)) ∧ Below w.heap.size w w' := by
  go_enter Try.func68, Try.ntmps68
  go_wp2_with fail
  refine (impl_states _ _ _ (fun s => bits .and .i64 (r s) p != 0) _ (enters_of Try.func113 (by kernel_rfl) rfl) ?_).mono ?_
  · intro W s hs hb
    exact impl_diamond1 r p _ _ W ((Row.old (Row.new w _ 4 r) _).grown hb) ((hb.cell (p := ⟨w.heap.size + 1, 0, none⟩) (by simp)).trans (World.cell?_alloc_at _ _ _ _ (by simp))) s hs
  rintro e w1 ⟨rfl, hb1⟩
  go_wp2_with fail
  go_ret
  exact ⟨rfl, (((Below.refl _ _).alloc (Nat.le_refl _) _).alloc (by simp) _).trans (hb1.mono (by simp; omega))⟩

theorem impl_box1 (r : Nat → Int) (p : Int) (b c : Nat) (w : World) (HR : Row w b 76 4 r) (hc : w.cell? ⟨c, 0, none⟩ = some (.int .i64 p)) (s : Nat) (hs : s < 4) :
    Calls Try.prog 170 #[.int .i64 s, .pointer (some ⟨b, 0, none⟩), .pointer (some ⟨c, 0, none⟩)] w fun e w' => e = .returned (.bool (bits .andNot .i64 (r s) p == 0)) ∧ Below w.heap.size w w' := by
  have h1 := HR.cell s hs
  go_enter Try.func170, Try.ntmps170
  go_wp2_with fail
  go_quiet (fail)
  go_wp2_with fail
  go_ret
  exact ⟨rfl, below_drewN (Below.refl _ _) _⟩

theorem impl_box (r : Nat → Int) (p : Int) (w : World) :
    Calls Try.prog 164 #[.agg (cs 4 r), .int .i64 p] w fun e w' => e = .returned (.int .i64 (box r p)) ∧ Below w.heap.size w w' := by
  go_enter Try.func164, Try.ntmps164
  go_wp2_with fail
  refine (impl_states _ _ _ (fun s => bits .andNot .i64 (r s) p == 0) _ (enters_of Try.func170 (by kernel_rfl) rfl) ?_).mono ?_
  · intro W s hs hb
    exact impl_box1 r p _ _ W ((Row.old (Row.new w _ 4 r) _).grown hb) ((hb.cell (p := ⟨w.heap.size + 1, 0, none⟩) (by simp)).trans (World.cell?_alloc_at _ _ _ _ (by simp))) s hs
  rintro e w1 ⟨rfl, hb1⟩
  go_wp2_with fail
  go_ret
  exact ⟨rfl, (((Below.refl _ _).alloc (Nat.le_refl _) _).alloc (by simp) _).trans (hb1.mono (by simp; omega))⟩


theorem impl_rel_then (r q : Nat → Int) (w : World) :
    Calls Try.prog 72 #[.agg (cs 4 r), .agg (cs 4 q)] w fun e w' => e = .returned (.agg (cs 4 (comp r q))) ∧ Below w.heap.size w w' := by
  go_enter Try.func72, Try.ntmps72
  go_wp2_with fail
  rw [← cs4_zero]
  go_loopw [9] (fun i wr => ∃ (k : Nat) (f : Nat → Int), k ≤ 4 ∧ i = .int .i64 k ∧ Hid (∀ j, j < 4 → f j = if j < k then comp r q j else 0) ∧ Row wr (w.heap.size + 3) 76 4 f ∧ Row wr (w.heap.size + 2) 76 4 (fun _ => 0) ∧ Row wr (w.heap.size + 1) 76 4 q ∧ Row wr w.heap.size 76 4 r ∧ Below w.heap.size w wr) (fun i _ => 4 - (intOf i).toNat)
  case atStart => exact ⟨0, fun _ => 0, by omega, rfl, fun j hj => by simp, by simpa using Row.new (((w.alloc _).alloc _).alloc _) _ 4 _, by simpa using (Row.new ((w.alloc _).alloc _) _ 4 _).old _, by simpa using ((Row.new (w.alloc _) _ 4 q).old _).old _, (((Row.new w _ 4 r).old _).old _).old _, ((((Below.refl _ _).alloc (Nat.le_refl _) _).alloc (by simp) _).alloc (by simp; omega) _).alloc (by simp; omega) _⟩
  case round =>
    obtain ⟨k, f, hk, rfl, H, HR, HR0, HQ, HX, hb⟩ := hrel
    by_cases hlt : k < 4
    · have ek : decide ((k : Int) < 4) = true := by rw [decide_eq_true_eq]; omega
      go_wp2_with fail
      obtain ⟨wo, rfl⟩ : ∃ wo : World, wo = wr := ⟨_, rfl⟩
      go_loopw [12] (fun i wr => ∃ (j : Nat), j ≤ 4 ∧ i = .int .i64 j ∧ Row wr (w.heap.size + 3) 76 4 (upd f k (orf (has (r k)) q j)) ∧ Row wr (w.heap.size + 2) 76 4 (fun _ => 0) ∧ Row wr (w.heap.size + 1) 76 4 q ∧ Row wr w.heap.size 76 4 r ∧ Below w.heap.size w wr) (fun i _ => 4 - (intOf i).toNat)
      case atStart => exact ⟨0, by omega, rfl, HR.ext fun j hj => by
        by_cases e : j = k
        · subst e; rw [upd_same, H.out j hj, if_neg (by omega)]; rfl
        · rw [upd_other _ _ _ _ e], HR0, HQ, HX, hb⟩
      case round =>
        obtain ⟨j, hj, rfl, HR, HR0, HQ, HX, hb⟩ := hrel
        by_cases hjt : j < 4
        · cases hbk : has (r k) j
          all_goals
            have H1 := Lib.hid hbk; clear hbk
            go_wp2_with (refine wp_load_Row rfl 76 _ rfl w.heap.size rfl HX rel_u rfl rel_i ?_)
            refine (impl_rel_has r k j hlt hjt _).mono ?_
            rintro e w1 ⟨rfl, hb1⟩
            rw [H1.out]
            go_wp2_with fail
          · go_roundw
            case rel => exact ⟨j + 1, by omega, by go_num, by rw [show orf (has (r k)) q (j + 1) = orf (has (r k)) q j by simp [orf, H1.out]]; exact HR.grown hb1, HR0.grown hb1, HQ.grown hb1, HX.grown hb1, hb.trans (hb1.mono hb.size)⟩
            case measure => simp [intOf]; omega
          · have hc := (HR.grown hb1).cell k hlt
            rw [upd_same] at hc
            have hf := (HR.grown hb1).free k
            have hq := (HQ.grown hb1).cell j hjt
            go_region
            go_wp2_with fail
            go_roundw
            case rel => exact ⟨j + 1, by omega, by go_num, Row.drew <| ((HR.grown hb1).set k _).ext fun i _ => by
              by_cases e : i = k
              · subst e; rw [upd_same, upd_same]; simp [orf, H1.out]
              · rw [upd_other _ _ _ _ e, upd_other _ _ _ _ e, upd_other _ _ _ _ e], Row.drew ((HR0.grown hb1).setAt _ _ _ (by omega)), Row.drew ((HQ.grown hb1).setAt _ _ _ (by omega)), Row.drew ((HX.grown hb1).setAt _ _ _ (by omega)), (below_setAt (hb.trans (hb1.mono hb.size)) _ _ (by omega) _).drew⟩
            case measure => simp [intOf]; omega
        · obtain rfl : j = 4 := by omega
          go_wp2_with fail
          go_roundw
          case rel => exact ⟨k + 1, _, by omega, by go_num, fun i hi => by
            by_cases e : i = k
            · subst e; rw [upd_same, if_pos (by omega)]; rfl
            · rw [upd_other _ _ _ _ e, H.out i hi]
              by_cases h : i < k
              · rw [if_pos h, if_pos (by omega)]
              · rw [if_neg h, if_neg (by omega)], HR, HR0, HQ, HX, hb⟩
          case measure => simp [intOf]; omega
    · obtain rfl : k = 4 := by omega
      go_wp2_with (first
        | (refine wp_load_Row rfl 76 _ rfl (w.heap.size + 3) rfl HR rel_u rfl rel_i ?_)
        | (refine wp_store_Row rfl 76 _ _ rfl (w.heap.size + 2) rfl (f := f) rfl HR0 rel_i ?_))
      refine ret_Row rfl (w.heap.size + 2) rfl (HR0.setRow _) rel_u rfl rel_i rfl ⟨?_, below_setRow hb (by omega) _⟩
      exact ret_agg (cs_ext fun j hj => by rw [H.out j hj, if_pos hj])

theorem impl_rel_text (r : Nat → Int) (hr : Cond r) (w : World) :
    Calls Try.prog 54 #[.agg (cs 4 r)] w fun e w' => e = .returned (.string (txt 4 r)) ∧ Below w.heap.size w w' := by
  go_enter Try.func54, Try.ntmps54
  go_wp2_with (refine wp_load_Row rfl 76 _ rfl w.heap.size rfl (Row.new w 76 4 r) rel_u rfl rel_i ?_)
  go_loop [3, 7] (fun o i => ∃ k : Nat, k ≤ 4 ∧ i = .int .i64 k ∧ o = .string (txt k r)) (fun _ i => 4 - (intOf i).toNat)
  case atStart => exact ⟨0, by omega, rfl, rfl⟩
  case round =>
    obtain ⟨k, hk, rfl, rfl⟩ := hrel
    by_cases hlt : k < 4
    · have hx := fun W => run_index_cs (P := Try.prog) W 76 3 4 r k .i64 hlt rel_u Try.underlying3 (by kernel_rfl)
      go_wp2_with fail
      refine (impl_digit _ _ (hr k).1 (hr k).2).mono ?_
      rintro e w' ⟨rfl, rfl⟩
      go_wp2_with fail
      go_round
      case rel => exact ⟨k + 1, by omega, by go_num, congrArg Value.string (txt_succ k r)⟩
      case measure => simp [intOf]; omega
    · obtain rfl : k = 4 := by omega
      go_wp2_with fail
      go_ret
      exact ⟨rfl, (Below.refl _ _).alloc (Nat.le_refl _) _⟩
end Go.Proofs.Ytaeibhpkcikaaaa

/- Im2b -/
namespace Go.Proofs.Ytaeibhpkcikaaaa
set_option linter.unusedVariables false
set_option linter.unusedSimpArgs false
open Go.RowKit Go.Shelf
set_option maxRecDepth 100000
set_option maxHeartbeats 1000000

/-- in every world that w has grown to, calling g with two relations hands back F of them -/
def AsksRR (P : Program) (g : FuncId) (bv lb : Array Value) (F : (Nat → Int) → (Nat → Int) → Nat → Int) (w : World) : Prop :=
  ∀ (W : World) (x y : Nat → Int), Cond x → Cond y → Below w.heap.size w W → Calls P g (bv ++ (#[.agg (cs 4 x), .agg (cs 4 y)] ++ lb)) W fun e W' => e = .returned (.agg (cs 4 (F x y))) ∧ Below W.heap.size W W'
/-- .. with a relation and a condition hands back the number F of them -/
def AsksRC (P : Program) (g : FuncId) (bv lb : Array Value) (F : (Nat → Int) → Int → Int) (w : World) : Prop :=
  ∀ (W : World) (x : Nat → Int) (p : Int), Cond x → C p → Below w.heap.size w W → Calls P g (bv ++ (#[.agg (cs 4 x), .int .i64 p] ++ lb)) W fun e W' => e = .returned (.int .i64 (F x p)) ∧ Below W.heap.size W W'


theorem impl_asked (r : ByteArray) (p : Int) (hr : r.size ≤ 4611686018427387904) (g : FuncId) (bv lb : Array Value) (F : (Nat → Int) → Int → Int)
    (w : World) (eg : Enters Try.prog g) (hg : AsksRC Try.prog g bv lb F w) :
    Calls Try.prog 142 #[.string r, .int .i64 p, .func (.func g) bv lb] w fun e w' => e = .returned (.int .i64 (orMinus (okTxt 4 r && isC p) (F (val r) p))) ∧ Below w.heap.size w w' := by
  have eg' : ∀ args w, (callFunc g args).run Try.prog w = .ok (.enter g args) w := eg
  cases h1 : okTxt 4 r
  · have H1 := Lib.hid h1; clear h1
    go_enter Try.func142, Try.ntmps142
    go_wp2_with fail
    refine (impl_readRel _ hr _).mono ?_
    rintro e w1 ⟨rfl, hb1⟩
    rw [H1.out]
    go_wp2_with (refine wp_store_New rfl 76 _ _ rfl rfl (f := tab 4 r) rfl rfl rel_i ?_)
    go_ret
    exact ⟨rfl, below_new hb1 _⟩
  · cases h2 : isC p
    all_goals
      have H1 := Lib.hid h1; clear h1
      have H2 := Lib.hid h2; clear h2
      go_enter Try.func142, Try.ntmps142
      go_wp2_with fail
      refine (impl_readRel _ hr _).mono ?_
      rintro e w1 ⟨rfl, hb1⟩
      rw [H1.out]
      have R1 : Row (w1.alloc (.cells (cs 4 (tab 4 r)) 76)) w1.heap.size 76 4 (tab 4 r) := Row.new w1 _ 4 _
      go_wp2_with (refine wp_store_New rfl 76 _ _ rfl rfl (f := tab 4 r) rfl rfl rel_i ?_)
      refine (impl_ConditionValid _ _).mono ?_
      rintro e w2 ⟨rfl, rfl⟩
      rw [H2.out]
      go_wp2_with (refine wp_load_Row rfl 76 _ rfl w1.heap.size rfl R1 rel_u rfl rel_i ?_)
    · go_ret
      exact ⟨rfl, below_new hb1 _⟩
    · refine (hg _ _ _ (tab_ok 4 r) (isC_get H2.out) (below_new hb1 _)).mono ?_
      rintro e w3 ⟨rfl, hb3⟩
      go_wp2_with fail
      go_ret
      refine ⟨?_, below_step (below_new hb1 _) hb3⟩
      rw [tab_val H1.out]; rfl

theorem impl_DiamondOf (r : ByteArray) (p : Int) (hr : r.size ≤ 4611686018427387904) (w : World) :
    Calls Try.prog 81 #[.string r, .int .i64 p] w fun e w' => e = .returned (.int .i64 (orMinus (okTxt 4 r && isC p) (dia (val r) p))) ∧ Below w.heap.size w w' := by
  go_enter Try.func81, Try.ntmps81
  go_wp2_with fail
  refine (impl_asked r p hr _ #[] #[] dia _ (enters_of Try.func68 (by kernel_rfl) rfl) ?_).mono ?_
  · intro W x p hx hp hb
    exact impl_diamond x p W
  rintro e w1 ⟨rfl, hb1⟩
  go_wp2_with fail
  go_ret
  exact ⟨rfl, hb1⟩

theorem impl_ConcreteCondition (r : ByteArray) (p : Int) (hr : r.size ≤ 4611686018427387904) (w : World) :
    Calls Try.prog 28 #[.string r, .int .i64 p] w fun e w' => e = .returned (.int .i64 (orMinus (okTxt 4 r && isC p) (dia (val r) p))) ∧ Below w.heap.size w w' := by
  go_enter Try.func28, Try.ntmps28
  go_wp2_with fail
  refine (impl_DiamondOf r p hr _).mono ?_
  rintro e w1 ⟨rfl, hb1⟩
  go_wp2_with fail
  go_ret
  exact ⟨rfl, hb1⟩

end Go.Proofs.Ytaeibhpkcikaaaa

/- Sp2b -/
namespace Go.Proofs.Ytaeibhpkcikaaaa
set_option linter.unusedVariables false
set_option linter.unusedSimpArgs false
open Go.RowKit Go.Shelf
set_option maxRecDepth 100000
set_option maxHeartbeats 1000000

theorem dia_congr {r q : Nat → Int} (h : ∀ k, k < 4 → r k = q k) (p : Int) : dia r p = dia q p := by
  unfold dia mk
  simp only [orf, h 0 (by decide), h 1 (by decide), h 2 (by decide), h 3 (by decide)]
theorem box_congr {r q : Nat → Int} (h : ∀ k, k < 4 → r k = q k) (p : Int) : box r p = box q p := by
  unfold box mk
  simp only [orf, h 0 (by decide), h 1 (by decide), h 2 (by decide), h 3 (by decide)]
/-- a box is no diamond of the others -/
theorem box_notp {r : Nat → Int} (hr : Cond r) {p : Int} (hp : C p) : notp (dia r (notp p)) = box r p := by
  refine C.ext (notp_ok (dia_ok _ _)) (box_ok _ _) fun i hi => ?_
  rw [has_notp (dia_ok _ _) hi]
  unfold dia box
  rw [has_mk _ (by decide), has_mk _ (by decide)]
  simp only [hi, decide_true, Bool.true_and]
  have e : bits .and .i64 (r i) (notp p) = bits .andNot .i64 (r i) p := by
    refine C.ext (C.and (hr i) (notp_ok hp)) (C.dif (hr i) hp) fun j hj => ?_
    rw [has_and (C.fit16 (hr i)) (C.fit16 (notp_ok hp)), has_dif (C.fit16 (hr i)) (C.fit16 hp), has_notp hp hj]
  rw [e]
  cases h : (bits .andNot .i64 (r i) p == 0) <;> simp_all [bne]
/-- the states that lead into one state -/
theorem dia_sh {r : Nat → Int} (hr : Cond r) {t : Nat} (ht : t < 4) : dia r (sh t) = turn r t := by
  refine C.ext (dia_ok _ _) C.mk fun i hi => ?_
  unfold dia turn
  rw [has_mk _ (by decide), has_mk _ (by decide)]
  simp only [hi, decide_true, Bool.true_and]
  have hs : C (sh t) := (fit_sh (n := 4) (by decide) ht).c
  rw [Bool.eq_iff_iff]
  constructor
  · intro h
    cases hh : has (r i) t
    · exfalso
      have e : bits .and .i64 (r i) (sh t) = 0 := C.ext (C.and (hr i) hs) C.zero fun j hj => by
        rw [has_and (C.fit16 (hr i)) (C.fit16 hs), has_sh (by omega), has_zero]
        by_cases e : t = j
        · subst e; simp [hh]
        · simp [e]
      rw [e] at h; simp at h
    · rfl
  · intro h
    rw [bne_iff_ne]
    intro e
    have := congrArg (fun x => has x t) e
    simp only [has_and (C.fit16 (hr i)) (C.fit16 hs), has_sh (show t < 16 by omega), has_zero, h] at this
    simp at this
theorem turn_ok (r : Nat → Int) : Cond (turn r) := fun _ => C.mk

theorem spec_l2Turn' (r : ByteArray) (w : World) (H : Hid (okTxt 4 r = true)) : Calls Try.prog 124 #[.string r] w fun e w' => e = .returned (.string (txt 4 (turn (val r)))) ∧ w = w' := by
  refine (spec_l2Turn r w H).mono ?_
  rintro e w' ⟨rfl, rfl⟩
  exact ⟨ret_str (txt_ext fun k hk => dia_sh (val_ok r) hk), rfl⟩

end Go.Proofs.Ytaeibhpkcikaaaa

/- Sp3 -/
namespace Go.Proofs.Ytaeibhpkcikaaaa
set_option linter.unusedVariables false
set_option linter.unusedSimpArgs false
open Go.RowKit Go.Shelf
set_option maxRecDepth 100000
set_option maxHeartbeats 1000000

end Go.Proofs.Ytaeibhpkcikaaaa
