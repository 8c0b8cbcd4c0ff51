/- Contracts: the reference's functions on conditions and relations. -/
import Derived.Test.YtaeibhpkcikaaaaGreatGA
import Derived.RegionTactic
import Derived.BigRegion
import Derived.Deep.QuietTactic
import Derived.BigQuiet
/- Sp2 -/
namespace Go.Proofs.YtaeibhpkcikaaaaGreat
set_option linter.unusedVariables false
set_option linter.unusedSimpArgs false
open Go.RowKit Go.Shelf
set_option maxRecDepth 100000
set_option maxHeartbeats 1000000

/-- is p a condition? -/
def isC (p : Int) : Bool := decide (0 ≤ p) && decide (p ≤ 15)
theorem isC_mk {p : Int} (h : 0 ≤ p ∧ p ≤ 15) : isC p = true := by simp [isC, h.1, h.2]
theorem isC_get {p : Int} (h : isC p = true) : 0 ≤ p ∧ p ≤ 15 := by simpa [isC] using h

theorem spec_l1Has (p : Int) (k : Nat) (w : World) (hk : k ≤ 63) : Calls Tryz.prog 102 #[.int .i64 p, .int .i64 k] w fun e w' => e = .returned (.bool (has p k)) ∧ w = w' := by
  go_enter Tryz.func102, Tryz.ntmps102
  go_wp2_with fail
  go_ret
  exact ⟨rfl, rfl⟩

theorem spec_RelValid (s : ByteArray) (w : World) (hs : s.size ≤ 4611686018427387904) : Calls Tryz.prog 73 #[.string s] w fun e w' => e = .returned (.bool (okTxt 4 s)) ∧ w = w' := by
  go_enter Tryz.func73, Tryz.ntmps73
  go_wp2_with fail
  refine (spec_l2Digits _ _ _ hs (by decide)).mono ?_
  rintro e w' ⟨rfl, rfl⟩
  go_wp2_with fail
  go_ret
  exact ⟨rfl, rfl⟩

theorem spec_l2To (s : ByteArray) (n k : Nat) (w : World) (H : Hid (okTxt n s = true)) (hk : k < n) : Calls Tryz.prog 75 #[.string s, .int .i64 k] w fun e w' => e = .returned (.int .i64 (val s k)) ∧ w = w' := by
  have hsz : k < s.size := by rw [okTxt_size H.out]; exact hk
  go_enter Tryz.func75, Tryz.ntmps75
  go_wp2_with fail
  refine (spec_l2Hex _ _).mono ?_
  rintro e w' ⟨rfl, rfl⟩
  go_wp2_with fail
  go_ret
  exact ⟨ret_int (okTxt_val H.out k hk).symm, rfl⟩

theorem spec_l2Image (r : ByteArray) (p : Int) (w : World) (H : Hid (okTxt 4 r = true)) : Calls Tryz.prog 78 #[.string r, .int .i64 p] w fun e w' => e = .returned (.int .i64 (img (val r) p)) ∧ w = w' := by
  go_enter Tryz.func78, Tryz.ntmps78
  go_wp2_with fail
  go_loop [5, 6] (fun o i => ∃ k : Nat, k ≤ 4 ∧ i = .int .i64 k ∧ o = .int .i64 (orf (has p) (val r) k)) (fun _ i => 4 - (intOf i).toNat)
  case atStart => exact ⟨0, by omega, rfl, rfl⟩
  case round =>
    obtain ⟨k, hk, rfl, rfl⟩ := hrel
    by_cases hlt : k < 4
    · cases hb : has p k
      all_goals
        have H1 := Lib.hid hb; clear hb
        go_wp2_with fail
        refine (spec_l1Has _ _ _ (by omega)).mono ?_
        rintro e w' ⟨rfl, rfl⟩
        rw [H1.out]
      · go_wp2_with fail
        go_round
        case rel => exact ⟨k + 1, by omega, by go_num, by simp [orf, H1.out]⟩
        case measure => simp [intOf]; omega
      · go_wp2_with fail
        refine (spec_l2To _ 4 _ _ H hlt).mono ?_
        rintro e w' ⟨rfl, rfl⟩
        go_wp2_with fail
        go_round
        case rel => exact ⟨k + 1, by omega, by go_num, by simp [orf, H1.out]⟩
        case measure => simp [intOf]; omega
    · obtain rfl : k = 4 := by omega
      go_wp2_with fail
      go_ret
      exact ⟨rfl, rfl⟩

theorem spec_l2Diamond (r : ByteArray) (p : Int) (w : World) (H : Hid (okTxt 4 r = true)) : Calls Tryz.prog 77 #[.string r, .int .i64 p] w fun e w' => e = .returned (.int .i64 (dia (val r) p)) ∧ w = w' := by
  go_enter Tryz.func77, Tryz.ntmps77
  go_wp2_with fail
  go_loop [5, 6] (fun o i => ∃ k : Nat, k ≤ 4 ∧ i = .int .i64 k ∧ o = .int .i64 (mk (fun s => bits .and .i64 (val r s) p != 0) k)) (fun _ i => 4 - (intOf i).toNat)
  case atStart => exact ⟨0, by omega, rfl, rfl⟩
  case round =>
    obtain ⟨k, hk, rfl, rfl⟩ := hrel
    by_cases hlt : k < 4
    · cases hb : (bits .and .i64 (val r k) p != 0)
      all_goals
        have H1 := Lib.hid hb; clear hb
        go_wp2_with fail
        refine (spec_l2To _ 4 _ _ H hlt).mono ?_
        rintro e w' ⟨rfl, rfl⟩
        have e1 := H1.out
        go_wp2_with fail
        go_round
        case rel => exact ⟨k + 1, by omega, by go_num, by simp [mk, orf, H1.out, sh]⟩
        case measure => simp [intOf]; omega
    · obtain rfl : k = 4 := by omega
      go_wp2_with fail
      go_ret
      exact ⟨rfl, rfl⟩

theorem spec_l2Turn (r : ByteArray) (w : World) (H : Hid (okTxt 4 r = true)) : Calls Tryz.prog 80 #[.string r] w fun e w' => e = .returned (.string (txt 4 fun t => dia (val r) (sh t))) ∧ w = w' := by
  go_enter Tryz.func80, Tryz.ntmps80
  go_wp2_with fail
  go_loop [3, 4] (fun o i => ∃ k : Nat, k ≤ 4 ∧ i = .int .i64 k ∧ o = .string (txt k fun t => dia (val r) (sh t))) (fun _ i => 4 - (intOf i).toNat)
  case atStart => exact ⟨0, by omega, rfl, rfl⟩
  case round =>
    obtain ⟨k, hk, rfl, rfl⟩ := hrel
    by_cases hlt : k < 4
    · go_wp2_with fail
      refine (spec_l2Diamond _ _ _ H).mono ?_
      rintro e w' ⟨rfl, rfl⟩
      go_wp2_with fail
      refine (spec_l2Digit _ _ (dia_ok _ _).1 (dia_ok _ _).2).mono ?_
      rintro e w' ⟨rfl, rfl⟩
      go_wp2_with fail
      go_round
      case rel => exact ⟨k + 1, by omega, by go_num, congrArg Value.string (txt_succ k fun t => dia (val r) (sh t))⟩
      case measure => simp [intOf]; omega
    · obtain rfl : k = 4 := by omega
      go_wp2_with fail
      go_ret
      exact ⟨rfl, rfl⟩

theorem spec_l2Compose (r q : ByteArray) (w : World) (H : Hid (okTxt 4 r = true)) (H2 : Hid (okTxt 4 q = true)) : Calls Tryz.prog 79 #[.string r, .string q] w fun e w' => e = .returned (.string (txt 4 fun s => img (val q) (val r s))) ∧ w = w' := by
  go_enter Tryz.func79, Tryz.ntmps79
  go_wp2_with fail
  go_loop [5, 6] (fun o i => ∃ k : Nat, k ≤ 4 ∧ i = .int .i64 k ∧ o = .string (txt k fun s => img (val q) (val r s))) (fun _ i => 4 - (intOf i).toNat)
  case atStart => exact ⟨0, by omega, rfl, rfl⟩
  case round =>
    obtain ⟨k, hk, rfl, rfl⟩ := hrel
    by_cases hlt : k < 4
    · go_wp2_with fail
      refine (spec_l2To _ 4 _ _ H hlt).mono ?_
      rintro e w' ⟨rfl, rfl⟩
      go_wp2_with fail
      refine (spec_l2Image _ _ _ H2).mono ?_
      rintro e w' ⟨rfl, rfl⟩
      go_wp2_with fail
      refine (spec_l2Digit _ _ (img_ok (val_ok _) _).1 (img_ok (val_ok _) _).2).mono ?_
      rintro e w' ⟨rfl, rfl⟩
      go_wp2_with fail
      go_round
      case rel => exact ⟨k + 1, by omega, by go_num, congrArg Value.string (txt_succ k fun s => img (val q) (val r s))⟩
      case measure => simp [intOf]; omega
    · obtain rfl : k = 4 := by omega
      go_wp2_with fail
      go_ret
      exact ⟨rfl, rfl⟩

end Go.Proofs.YtaeibhpkcikaaaaGreat

/- Im2 -/
namespace Go.Proofs.YtaeibhpkcikaaaaGreat
set_option linter.unusedVariables false
set_option linter.unusedSimpArgs false
open Go.RowKit Go.Shelf
set_option maxRecDepth 100000
set_option maxHeartbeats 1000000

theorem impl_ConditionValid (p : Int) (w : World) : Calls Tryz.prog 27 #[.int .i64 p] w fun e w' => e = .returned (.bool (isC p)) ∧ w = w' := by
  by_cases h1 : 0 ≤ p
  · have e1 : decide (0 ≤ p) = true := by simpa using h1
    go_enter Tryz.func27, Tryz.ntmps27
    go_wp2_with fail
    go_ret
    exact ⟨ret_bool (by simp only [isC, e1, Bool.true_and]), rfl⟩
  · have e1 : decide (0 ≤ p) = false := by simpa using h1
    go_enter Tryz.func27, Tryz.ntmps27
    go_wp2_with fail
    go_ret
    exact ⟨ret_bool (by simp only [isC, e1, Bool.false_and]), rfl⟩

theorem rel_u : Tryz.prog.underlying 41 = some (.array 4 3) := Tryz.underlying41
theorem rel_i : (Tryz.prog.info? 41).map (·.size) = some 4 := by kernel_rfl

theorem impl_readRel (s : ByteArray) (hs : s.size ≤ 4611686018427387904) (w : World) :
    Calls Tryz.prog 20 #[.string s] w fun e w' => e = .returned (.tuple #[.agg (cs 4 (tab 4 s)), .bool (okTxt 4 s)]) ∧ Below w.heap.size w w' := by
  by_cases hz : s.size = 4
  · have hz2 : 4 ≤ s.size := by omega
    have HZ := Lib.hid hz; clear hz
    have e1 : ((s.size : Int) != 4) = false := by rw [HZ.out]; rfl
    go_enter Tryz.func20, Tryz.ntmps20
    go_wp2_with fail
    clear e1
    rw [← cs4_zero]
    go_loopw [11] (fun i wr => ∃ (k : Nat) (f : Nat → Int), k ≤ 4 ∧ i = .int .i64 k ∧ Hid (∀ j, j < k → f j = hx (bt s j) ∧ 0 ≤ f j) ∧ Row wr (w.heap.size + 1) 41 4 f ∧ Row wr w.heap.size 41 4 (fun _ => 0) ∧ Below w.heap.size w wr) (fun i _ => 4 - (intOf i).toNat)
    case atStart => exact ⟨0, fun _ => 0, by omega, rfl, fun j hj => by omega, ⟨heap_alloc2_new _ _ _⟩, ⟨heap_alloc2_old _ _ _⟩, ((Below.refl _ _).alloc (Nat.le_refl _) _).alloc (by simp) _⟩
    case round =>
      obtain ⟨k, f, hk, rfl, H, HR, HR0, hb⟩ := hrel
      by_cases hlt : k < 4
      · have hc := HR.cell k hlt
        have hf := HR.free k
        by_cases hneg : hx (bt s k) < 0
        · go_wp2_with fail
          refine (impl_digitOf _ _).mono ?_
          rintro e w' ⟨rfl, rfl⟩
          go_wp2_with (refine wp_store_Row rfl 41 _ _ rfl w.heap.size rfl (f := fun _ => 0) rfl (HR0.setAt _ _ _ (by omega)) rel_i ?_)
          refine ret_Row_tmp rfl w.heap.size rfl ((HR0.setAt _ _ _ (by omega)).setRow _) rel_u rfl rel_i rfl ⟨?_, ?_⟩
          · have hn : okTxt 4 s = false := by
              rw [Bool.eq_false_iff]; intro h
              have := okTxt_hx h k hlt; omega
            rw [tab_none hn, hn]; rfl
          · exact below_setRow (below_setAt hb _ _ (by omega) _) (Nat.le_refl _) _
        · have hc2 := (HR.set k (hx (bt s k))).cell k hlt
          rw [upd_same] at hc2
          have hneg' : 0 ≤ hx (bt s k) := by omega
          have HN := Lib.hid hneg'
          go_wp2_with fail
          refine (impl_digitOf _ _).mono ?_
          rintro e w' ⟨rfl, rfl⟩
          go_wp2_with fail
          go_roundw
          case rel => exact ⟨k + 1, upd f k (hx (bt s k)), by omega, by go_num, fun j hj => by
            rcases Nat.lt_or_ge j k with h | h
            · rw [upd_other _ _ _ _ (by omega)]; exact H.out j h
            · obtain rfl : j = k := by omega
              rw [upd_same]; exact ⟨rfl, HN.out⟩, HR.set k _, HR0.setAt _ _ _ (by omega), below_setAt hb _ _ (by omega) _⟩
          case measure => simp [intOf]; omega
      · obtain rfl : k = 4 := by omega
        go_wp2_with (first
          | (refine wp_load_Row rfl 41 _ rfl (w.heap.size + 1) rfl HR rel_u rfl rel_i ?_)
          | (refine wp_store_Row rfl 41 _ _ rfl w.heap.size rfl (f := f) rfl HR0 rel_i ?_))
        refine ret_Row_tmp rfl w.heap.size rfl (HR0.setRow _) rel_u rfl rel_i rfl ⟨?_, ?_⟩
        · have hn : okTxt 4 s = true := by
            simp only [okTxt, HZ.out, decide_true, Bool.true_and, List.all_eq_true, List.mem_range, decide_eq_true_eq]
            intro j hj; have := H.out j hj; omega
          rw [tab_val hn, hn]
          rw [cs_ext (f := f) (g := val s) fun j hj => by rw [okTxt_val hn j hj]; exact (H.out j hj).1]; rfl
        · exact below_setRow hb (Nat.le_refl _) _
  · have e1 : ((s.size : Int) != 4) = true := by simp; omega
    have hn : okTxt 4 s = false := by
      rw [Bool.eq_false_iff]; intro h
      exact hz (okTxt_size h)
    have HN := Lib.hid hn; clear hn
    clear hz
    go_enter Tryz.func20, Tryz.ntmps20
    go_wp2_with fail
    refine ret_Row_tmp (n := 4) (f := fun _ => 0) rfl w.heap.size rfl ⟨heap_alloc2_old _ _ _⟩ rel_u rfl rel_i rfl ⟨?_, ?_⟩
    · rw [tab_none HN.out, HN.out]; rfl
    · exact ((Below.refl _ _).alloc (Nat.le_refl _) _).alloc (by simp) _

theorem impl_states (g : FuncId) (bv lb : Array Value) (b : Nat → Bool) (w : World) (eg : Enters Tryz.prog g) (hg : AsksP Tryz.prog g bv lb 4 b w) :
    Calls Tryz.prog 95 #[.func (.func g) bv lb] w fun e w' => e = .returned (.int .i64 (mk b 4)) ∧ Below w.heap.size w w' := by
  have eg' : ∀ args w, (callFunc g args).run Tryz.prog w = .ok (.enter g args) w := eg
  go_enter Tryz.func95, Tryz.ntmps95
  go_wp2_with fail
  go_loopw [3, 5] (fun o i wr => ∃ k : Nat, k ≤ 4 ∧ i = .int .i64 k ∧ o = .int .i64 (mk b k) ∧ Below w.heap.size w wr) (fun _ i _ => 4 - (intOf i).toNat)
  case atStart => exact ⟨0, by omega, rfl, rfl, Below.refl _ _⟩
  case round =>
    obtain ⟨k, hk, rfl, rfl, hb⟩ := hrel
    by_cases hlt : k < 4
    · cases hbk : b k
      all_goals
        have H1 := Lib.hid hbk; clear hbk
        go_wp2_with fail
        refine (hg _ k hlt hb).mono ?_
        rintro e w1 ⟨rfl, hb1⟩
        rw [H1.out]
        go_wp2_with fail
        go_roundw
        case rel => exact ⟨k + 1, by omega, by go_num, by simp [mk, orf, H1.out, sh], hb.trans (hb1.mono hb.size)⟩
        case measure => simp [intOf]; omega
    · obtain rfl : k = 4 := by omega
      go_wp2_with fail
      go_ret
      exact ⟨rfl, hb⟩

theorem impl_diamond1 (r : Nat → Int) (p : Int) (b c : Nat) (w : World) (HR : Row w b 41 4 r) (hc : w.cell? ⟨c, 0, none⟩ = some (.int .i64 p)) (s : Nat) (hs : s < 4) :
    Calls Tryz.prog 96 #[.int .i64 s, .pointer (some ⟨b, 0, none⟩), .pointer (some ⟨c, 0, none⟩)] w fun e w' => e = .returned (.bool (bits .and .i64 (r s) p != 0)) ∧ Below w.heap.size w w' := by
  have h1 := HR.cell s hs
  go_enter Tryz.func96, Tryz.ntmps96
  go_wp2_with fail
  go_quiet (fail)
  go_wp2_with fail
  go_ret
  exact ⟨rfl, below_drewN (Below.refl _ _) _⟩

theorem impl_diamond (r : Nat → Int) (p : Int) (w : World) :
    Calls Tryz.prog 69 #[.agg (cs 4 r), .int .i64 p] w fun e w' => e = .returned (.int .i64 (dia r p)) ∧ Below w.heap.size w w' := by
  go_enter Tryz.func69, Tryz.ntmps69
  go_wp2_with fail
  refine (impl_states _ _ _ (fun s => bits .and .i64 (r s) p != 0) _ (enters_of Tryz.func96 (by kernel_rfl) rfl) ?_).mono ?_
  · intro W s hs hb
    exact impl_diamond1 r p _ _ W ((Row.old (Row.new w _ 4 r) _).grown hb) ((hb.cell (p := ⟨w.heap.size + 1, 0, none⟩) (by simp)).trans (World.cell?_alloc_at _ _ _ _ (by simp))) s hs
  rintro e w1 ⟨rfl, hb1⟩
  go_wp2_with fail
  go_ret
  exact ⟨rfl, (((Below.refl _ _).alloc (Nat.le_refl _) _).alloc (by simp) _).trans (hb1.mono (by simp; omega))⟩

theorem impl_box1 (r : Nat → Int) (p : Int) (b c : Nat) (w : World) (HR : Row w b 41 4 r) (hc : w.cell? ⟨c, 0, none⟩ = some (.int .i64 p)) (s : Nat) (hs : s < 4) :
    Calls Tryz.prog 104 #[.int .i64 s, .pointer (some ⟨b, 0, none⟩), .pointer (some ⟨c, 0, none⟩)] w fun e w' => e = .returned (.bool (bits .andNot .i64 (r s) p == 0)) ∧ Below w.heap.size w w' := by
  have h1 := HR.cell s hs
  go_enter Tryz.func104, Tryz.ntmps104
  go_wp2_with fail
  go_quiet (fail)
  go_wp2_with fail
  go_ret
  exact ⟨rfl, below_drewN (Below.refl _ _) _⟩

theorem impl_box (r : Nat → Int) (p : Int) (w : World) :
    Calls Tryz.prog 87 #[.agg (cs 4 r), .int .i64 p] w fun e w' => e = .returned (.int .i64 (box r p)) ∧ Below w.heap.size w w' := by
  go_enter Tryz.func87, Tryz.ntmps87
  go_wp2_with fail
  refine (impl_states _ _ _ (fun s => bits .andNot .i64 (r s) p == 0) _ (enters_of Tryz.func104 (by kernel_rfl) rfl) ?_).mono ?_
  · intro W s hs hb
    exact impl_box1 r p _ _ W ((Row.old (Row.new w _ 4 r) _).grown hb) ((hb.cell (p := ⟨w.heap.size + 1, 0, none⟩) (by simp)).trans (World.cell?_alloc_at _ _ _ _ (by simp))) s hs
  rintro e w1 ⟨rfl, hb1⟩
  go_wp2_with fail
  go_ret
  exact ⟨rfl, (((Below.refl _ _).alloc (Nat.le_refl _) _).alloc (by simp) _).trans (hb1.mono (by simp; omega))⟩


end Go.Proofs.YtaeibhpkcikaaaaGreat

/- Im2b -/
namespace Go.Proofs.YtaeibhpkcikaaaaGreat
set_option linter.unusedVariables false
set_option linter.unusedSimpArgs false
open Go.RowKit Go.Shelf
set_option maxRecDepth 100000
set_option maxHeartbeats 1000000

/-- in every world that w has grown to, calling g with two relations hands back F of them -/
def AsksRR (P : Program) (g : FuncId) (bv lb : Array Value) (F : (Nat → Int) → (Nat → Int) → Nat → Int) (w : World) : Prop :=
  ∀ (W : World) (x y : Nat → Int), Cond x → Cond y → Below w.heap.size w W → Calls P g (bv ++ (#[.agg (cs 4 x), .agg (cs 4 y)] ++ lb)) W fun e W' => e = .returned (.agg (cs 4 (F x y))) ∧ Below W.heap.size W W'
/-- .. with a relation and a condition hands back the number F of them -/
def AsksRC (P : Program) (g : FuncId) (bv lb : Array Value) (F : (Nat → Int) → Int → Int) (w : World) : Prop :=
  ∀ (W : World) (x : Nat → Int) (p : Int), Cond x → C p → Below w.heap.size w W → Calls P g (bv ++ (#[.agg (cs 4 x), .int .i64 p] ++ lb)) W fun e W' => e = .returned (.int .i64 (F x p)) ∧ Below W.heap.size W W'


theorem impl_asked (r : ByteArray) (p : Int) (hr : r.size ≤ 4611686018427387904) (g : FuncId) (bv lb : Array Value) (F : (Nat → Int) → Int → Int)
    (w : World) (eg : Enters Tryz.prog g) (hg : AsksRC Tryz.prog g bv lb F w) :
    Calls Tryz.prog 68 #[.string r, .int .i64 p, .func (.func g) bv lb] w fun e w' => e = .returned (.int .i64 (orMinus (okTxt 4 r && isC p) (F (val r) p))) ∧ Below w.heap.size w w' := by
  have eg' : ∀ args w, (callFunc g args).run Tryz.prog w = .ok (.enter g args) w := eg
  cases h1 : okTxt 4 r
  · have H1 := Lib.hid h1; clear h1
    go_enter Tryz.func68, Tryz.ntmps68
    go_wp2_with fail
    refine (impl_readRel _ hr _).mono ?_
    rintro e w1 ⟨rfl, hb1⟩
    rw [H1.out]
    go_wp2_with (refine wp_store_New rfl 41 _ _ rfl rfl (f := tab 4 r) rfl rfl rel_i ?_)
    go_ret
    exact ⟨rfl, below_new hb1 _⟩
  · cases h2 : isC p
    all_goals
      have H1 := Lib.hid h1; clear h1
      have H2 := Lib.hid h2; clear h2
      go_enter Tryz.func68, Tryz.ntmps68
      go_wp2_with fail
      refine (impl_readRel _ hr _).mono ?_
      rintro e w1 ⟨rfl, hb1⟩
      rw [H1.out]
      have R1 : Row (w1.alloc (.cells (cs 4 (tab 4 r)) 41)) w1.heap.size 41 4 (tab 4 r) := Row.new w1 _ 4 _
      go_wp2_with (refine wp_store_New rfl 41 _ _ rfl rfl (f := tab 4 r) rfl rfl rel_i ?_)
      refine (impl_ConditionValid _ _).mono ?_
      rintro e w2 ⟨rfl, rfl⟩
      rw [H2.out]
      go_wp2_with (refine wp_load_Row rfl 41 _ rfl w1.heap.size rfl R1 rel_u rfl rel_i ?_)
    · go_ret
      exact ⟨rfl, below_new hb1 _⟩
    · refine (hg _ _ _ (tab_ok 4 r) (isC_get H2.out) (below_new hb1 _)).mono ?_
      rintro e w3 ⟨rfl, hb3⟩
      go_wp2_with fail
      go_ret
      refine ⟨?_, below_step (below_new hb1 _) hb3⟩
      rw [tab_val H1.out]; rfl

theorem impl_DiamondOf (r : ByteArray) (p : Int) (hr : r.size ≤ 4611686018427387904) (w : World) :
    Calls Tryz.prog 28 #[.string r, .int .i64 p] w fun e w' => e = .returned (.int .i64 (orMinus (okTxt 4 r && isC p) (dia (val r) p))) ∧ Below w.heap.size w w' := by
  go_enter Tryz.func28, Tryz.ntmps28
  go_wp2_with fail
  refine (impl_asked r p hr _ #[] #[] dia _ (enters_of Tryz.func69 (by kernel_rfl) rfl) ?_).mono ?_
  · intro W x p hx hp hb
    exact impl_diamond x p W
  rintro e w1 ⟨rfl, hb1⟩
  go_wp2_with fail
  go_ret
  exact ⟨rfl, hb1⟩

theorem impl_ConcreteCondition (r : ByteArray) (p : Int) (hr : r.size ≤ 4611686018427387904) (w : World) :
    Calls Tryz.prog 10 #[.string r, .int .i64 p] w fun e w' => e = .returned (.int .i64 (orMinus (okTxt 4 r && isC p) (dia (val r) p))) ∧ Below w.heap.size w w' := by
  go_enter Tryz.func10, Tryz.ntmps10
  go_wp2_with fail
  refine (impl_DiamondOf r p hr _).mono ?_
  rintro e w1 ⟨rfl, hb1⟩
  go_wp2_with fail
  go_ret
  exact ⟨rfl, hb1⟩

end Go.Proofs.YtaeibhpkcikaaaaGreat

/- Sp2b -/
namespace Go.Proofs.YtaeibhpkcikaaaaGreat
set_option linter.unusedVariables false
set_option linter.unusedSimpArgs false
open Go.RowKit Go.Shelf
set_option maxRecDepth 100000
set_option maxHeartbeats 1000000

theorem dia_congr {r q : Nat → Int} (h : ∀ k, k < 4 → r k = q k) (p : Int) : dia r p = dia q p := by
  unfold dia mk
  simp only [orf, h 0 (by decide), h 1 (by decide), h 2 (by decide), h 3 (by decide)]
theorem box_congr {r q : Nat → Int} (h : ∀ k, k < 4 → r k = q k) (p : Int) : box r p = box q p := by
  unfold box mk
  simp only [orf, h 0 (by decide), h 1 (by decide), h 2 (by decide), h 3 (by decide)]
/-- a box is no diamond of the others -/
theorem box_notp {r : Nat → Int} (hr : Cond r) {p : Int} (hp : C p) : notp (dia r (notp p)) = box r p := by
  refine C.ext (notp_ok (dia_ok _ _)) (box_ok _ _) fun i hi => ?_
  rw [has_notp (dia_ok _ _) hi]
  unfold dia box
  rw [has_mk _ (by decide), has_mk _ (by decide)]
  simp only [hi, decide_true, Bool.true_and]
  have e : bits .and .i64 (r i) (notp p) = bits .andNot .i64 (r i) p := by
    refine C.ext (C.and (hr i) (notp_ok hp)) (C.dif (hr i) hp) fun j hj => ?_
    rw [has_and (C.fit16 (hr i)) (C.fit16 (notp_ok hp)), has_dif (C.fit16 (hr i)) (C.fit16 hp), has_notp hp hj]
  rw [e]
  cases h : (bits .andNot .i64 (r i) p == 0) <;> simp_all [bne]
/-- the states that lead into one state -/
theorem dia_sh {r : Nat → Int} (hr : Cond r) {t : Nat} (ht : t < 4) : dia r (sh t) = turn r t := by
  refine C.ext (dia_ok _ _) C.mk fun i hi => ?_
  unfold dia turn
  rw [has_mk _ (by decide), has_mk _ (by decide)]
  simp only [hi, decide_true, Bool.true_and]
  have hs : C (sh t) := (fit_sh (n := 4) (by decide) ht).c
  rw [Bool.eq_iff_iff]
  constructor
  · intro h
    cases hh : has (r i) t
    · exfalso
      have e : bits .and .i64 (r i) (sh t) = 0 := C.ext (C.and (hr i) hs) C.zero fun j hj => by
        rw [has_and (C.fit16 (hr i)) (C.fit16 hs), has_sh (by omega), has_zero]
        by_cases e : t = j
        · subst e; simp [hh]
        · simp [e]
      rw [e] at h; simp at h
    · rfl
  · intro h
    rw [bne_iff_ne]
    intro e
    have := congrArg (fun x => has x t) e
    simp only [has_and (C.fit16 (hr i)) (C.fit16 hs), has_sh (show t < 16 by omega), has_zero, h] at this
    simp at this
theorem turn_ok (r : Nat → Int) : Cond (turn r) := fun _ => C.mk

theorem spec_l2Turn' (r : ByteArray) (w : World) (H : Hid (okTxt 4 r = true)) : Calls Tryz.prog 80 #[.string r] w fun e w' => e = .returned (.string (txt 4 (turn (val r)))) ∧ w = w' := by
  refine (spec_l2Turn r w H).mono ?_
  rintro e w' ⟨rfl, rfl⟩
  exact ⟨ret_str (txt_ext fun k hk => dia_sh (val_ok r) hk), rfl⟩

end Go.Proofs.YtaeibhpkcikaaaaGreat

/- Sp3 -/
namespace Go.Proofs.YtaeibhpkcikaaaaGreat
set_option linter.unusedVariables false
set_option linter.unusedSimpArgs false
open Go.RowKit Go.Shelf
set_option maxRecDepth 100000
set_option maxHeartbeats 1000000

theorem spec_l3Value (s : ByteArray) (k : Nat) (w : World) (H : Hid (okTxt 16 s = true)) (hk : k < 16) : Calls Tryz.prog 91 #[.string s, .int .i64 k] w fun e w' => e = .returned (.int .i64 (val s k)) ∧ w = w' := by
  have hsz : k < s.size := by rw [okTxt_size H.out]; exact hk
  go_enter Tryz.func91, Tryz.ntmps91
  go_wp2_with fail
  refine (spec_l2Hex _ _).mono ?_
  rintro e w' ⟨rfl, rfl⟩
  go_wp2_with fail
  go_ret
  exact ⟨ret_int (okTxt_val H.out k hk).symm, rfl⟩
theorem spec_l3ValueI (s : ByteArray) (p : Int) (w : World) (H : Hid (okTxt 16 s = true)) (hp : C p) : Calls Tryz.prog 91 #[.string s, .int .i64 p] w fun e w' => e = .returned (.int .i64 (val s p.toNat)) ∧ w = w' := by
  have h := spec_l3Value s p.toNat w H (by have := hp.2; omega)
  rwa [Int.toNat_of_nonneg hp.1] at h

theorem spec_l3Monotone (s : ByteArray) (w : World) (H : Hid (okTxt 16 s = true)) : Calls Tryz.prog 108 #[.string s] w fun e w' => e = .returned (.bool (mono (val s))) ∧ w = w' := by
  go_enter Tryz.func108, Tryz.ntmps108
  go_wp2_with fail
  go_loop [3] (fun i => ∃ k : Nat, k ≤ 16 ∧ i = .int .i64 k ∧ Hid (∀ p, p < k → ∀ q, q < 16 → monoAt (val s) p q = true)) (fun i => 16 - (intOf i).toNat)
  case atStart => exact ⟨0, by omega, rfl, fun j hj => by omega⟩
  case round =>
    obtain ⟨k, hk, rfl, HK⟩ := hrel
    by_cases hlt : k < 16
    · have ek : decide ((k : Int) < 16) = true := by rw [decide_eq_true_eq]; omega
      go_wp2_with fail
      go_loop [4] (fun i => ∃ j : Nat, j ≤ 16 ∧ i = .int .i64 j ∧ Hid (∀ q, q < j → monoAt (val s) k q = true)) (fun i => 16 - (intOf i).toNat)
      case atStart => exact ⟨0, by omega, rfl, fun j hj => by omega⟩
      case round =>
        obtain ⟨j, hj, rfl, HJ⟩ := hrel
        by_cases hjt : j < 16
        · cases h1 : (bits .andNot .i64 (k : Int) (j : Int) == 0)
          · have HM : Hid (monoAt (val s) k j = true) := by show monoAt (val s) k j = true; simp [monoAt, h1]
            go_wp2_with fail
            go_round
            case rel => exact ⟨j + 1, by omega, by go_num, fun q hq => by
              rcases Nat.lt_or_ge q j with h | h
              · exact HJ.out q h
              · obtain rfl : q = j := by omega
                exact HM.out⟩
            case measure => simp [intOf]; omega
          · cases h2 : (bits .andNot .i64 (val s k) (val s j) != 0)
            · have HM : Hid (monoAt (val s) k j = true) := by show monoAt (val s) k j = true; simp [monoAt, h2]
              go_wp2_with fail
              refine (spec_l3Value _ _ _ H hlt).mono ?_
              rintro e w' ⟨rfl, rfl⟩
              go_wp2_with fail
              refine (spec_l3Value _ _ _ H hjt).mono ?_
              rintro e w' ⟨rfl, rfl⟩
              go_wp2_with fail
              go_round
              case rel => exact ⟨j + 1, by omega, by go_num, fun q hq => by
                rcases Nat.lt_or_ge q j with h | h
                · exact HJ.out q h
                · obtain rfl : q = j := by omega
                  exact HM.out⟩
              case measure => simp [intOf]; omega
            · have HM : Hid (mono (val s) = false) := by
                show mono (val s) = false
                rw [Bool.eq_false_iff]; intro h
                have := mono_at h hlt hjt
                simp [monoAt, h1, h2] at this
              go_wp2_with fail
              refine (spec_l3Value _ _ _ H hlt).mono ?_
              rintro e w' ⟨rfl, rfl⟩
              go_wp2_with fail
              refine (spec_l3Value _ _ _ H hjt).mono ?_
              rintro e w' ⟨rfl, rfl⟩
              go_wp2_with fail
              go_ret
              exact ⟨ret_bool HM.out.symm, rfl⟩
        · obtain rfl : j = 16 := by omega
          go_wp2_with fail
          go_round
          case rel => exact ⟨k + 1, by omega, by go_num, fun p hp => by
            rcases Nat.lt_or_ge p k with h | h
            · exact HK.out p h
            · obtain rfl : p = k := by omega
              exact HJ.out⟩
          case measure => simp [intOf]; omega
    · obtain rfl : k = 16 := by omega
      go_wp2_with fail
      go_ret
      exact ⟨ret_bool (mono_of HK.out).symm, rfl⟩

theorem spec_MonotoneTable (s : ByteArray) (w : World) (hs : s.size ≤ 4611686018427387904) : Calls Tryz.prog 107 #[.string s] w fun e w' => e = .returned (.bool (okTr s)) ∧ w = w' := by
  cases hb : okTxt 16 s
  all_goals
    have H := Lib.hid hb; clear hb
    go_enter Tryz.func107, Tryz.ntmps107
    go_wp2_with fail
    refine (spec_l2Digits _ _ _ hs (by decide)).mono ?_
    rintro e w' ⟨rfl, rfl⟩
    rw [show (16 : Int).toNat = 16 from rfl, H.out]
    go_wp2_with fail
  · go_ret
    exact ⟨ret_bool (by simp [okTr, H.out]), rfl⟩
  · refine (spec_l3Monotone _ _ H).mono ?_
    rintro e w' ⟨rfl, rfl⟩
    go_wp2_with fail
    go_ret
    exact ⟨ret_bool (by simp [okTr, H.out]), rfl⟩

theorem spec_TransValid (s : ByteArray) (w : World) (hs : s.size ≤ 4611686018427387904) : Calls Tryz.prog 105 #[.string s] w fun e w' => e = .returned (.bool (okTr s)) ∧ w = w' := by
  go_enter Tryz.func105, Tryz.ntmps105
  go_wp2_with fail
  refine (spec_MonotoneTable _ _ hs).mono ?_
  rintro e w' ⟨rfl, rfl⟩
  go_wp2_with fail
  go_ret
  exact ⟨rfl, rfl⟩

theorem spec_l3Both (t u : ByteArray) (w : World) (ht : t.size ≤ 4611686018427387904) (hu : u.size ≤ 4611686018427387904) : Calls Tryz.prog 90 #[.string t, .string u] w fun e w' => e = .returned (.bool (okTr t && okTr u)) ∧ w = w' := by
  cases hb : okTr t
  all_goals
    have H := Lib.hid hb; clear hb
    go_enter Tryz.func90, Tryz.ntmps90
    go_wp2_with fail
    refine (spec_TransValid _ _ ht).mono ?_
    rintro e w' ⟨rfl, rfl⟩
    rw [H.out]
    go_wp2_with fail
  · go_ret
    exact ⟨rfl, rfl⟩
  · refine (spec_TransValid _ _ hu).mono ?_
    rintro e w' ⟨rfl, rfl⟩
    go_wp2_with fail
    go_ret
    exact ⟨rfl, rfl⟩

theorem spec_l3Then (t u : ByteArray) (w : World) (H : Hid (okTxt 16 t = true)) (H2 : Hid (okTxt 16 u = true)) : Calls Tryz.prog 59 #[.string t, .string u] w fun e w' => e = .returned (.string (txt 16 (thenT (val t) (val u)))) ∧ w = w' := by
  go_enter Tryz.func59, Tryz.ntmps59
  go_wp2_with fail
  go_loop [5, 6] (fun o i => ∃ k : Nat, k ≤ 16 ∧ i = .int .i64 k ∧ o = .string (txt k (thenT (val t) (val u)))) (fun _ i => 16 - (intOf i).toNat)
  case atStart => exact ⟨0, by omega, rfl, rfl⟩
  case round =>
    obtain ⟨k, hk, rfl, rfl⟩ := hrel
    by_cases hlt : k < 16
    · go_wp2_with fail
      refine (spec_l3Value _ _ _ H2 hlt).mono ?_
      rintro e w' ⟨rfl, rfl⟩
      go_wp2_with fail
      refine (spec_l3ValueI _ _ _ H (val_ok _ _)).mono ?_
      rintro e w' ⟨rfl, rfl⟩
      go_wp2_with fail
      refine (spec_l2Digit _ _ (val_ok _ _).1 (val_ok _ _).2).mono ?_
      rintro e w' ⟨rfl, rfl⟩
      go_wp2_with fail
      go_round
      case rel => exact ⟨k + 1, by omega, by go_num, congrArg Value.string (txt_succ k (thenT (val t) (val u)))⟩
      case measure => simp [intOf]; omega
    · obtain rfl : k = 16 := by omega
      go_wp2_with fail
      go_ret
      exact ⟨rfl, rfl⟩

theorem spec_l3Join (t u : ByteArray) (w : World) (H : Hid (okTxt 16 t = true)) (H2 : Hid (okTxt 16 u = true)) : Calls Tryz.prog 66 #[.string t, .string u] w fun e w' => e = .returned (.string (txt 16 (joinT (val t) (val u)))) ∧ w = w' := by
  go_enter Tryz.func66, Tryz.ntmps66
  go_wp2_with fail
  go_loop [5, 6] (fun o i => ∃ k : Nat, k ≤ 16 ∧ i = .int .i64 k ∧ o = .string (txt k (joinT (val t) (val u)))) (fun _ i => 16 - (intOf i).toNat)
  case atStart => exact ⟨0, by omega, rfl, rfl⟩
  case round =>
    obtain ⟨k, hk, rfl, rfl⟩ := hrel
    by_cases hlt : k < 16
    · go_wp2_with fail
      refine (spec_l3Value _ _ _ H hlt).mono ?_
      rintro e w' ⟨rfl, rfl⟩
      go_wp2_with fail
      refine (spec_l3Value _ _ _ H2 hlt).mono ?_
      rintro e w' ⟨rfl, rfl⟩
      go_wp2_with fail
      refine (spec_l2Digit _ _ (C.or (val_ok _ _) (val_ok _ _)).1 (C.or (val_ok _ _) (val_ok _ _)).2).mono ?_
      rintro e w' ⟨rfl, rfl⟩
      go_wp2_with fail
      go_round
      case rel => exact ⟨k + 1, by omega, by go_num, congrArg Value.string (txt_succ k (joinT (val t) (val u)))⟩
      case measure => simp [intOf]; omega
    · obtain rfl : k = 16 := by omega
      go_wp2_with fail
      go_ret
      exact ⟨rfl, rfl⟩

theorem spec_l3Dual (t : ByteArray) (w : World) (H : Hid (okTxt 16 t = true)) : Calls Tryz.prog 63 #[.string t] w fun e w' => e = .returned (.string (txt 16 (dualT (val t)))) ∧ w = w' := by
  go_enter Tryz.func63, Tryz.ntmps63
  go_wp2_with fail
  go_loop [3, 4] (fun o i => ∃ k : Nat, k ≤ 16 ∧ i = .int .i64 k ∧ o = .string (txt k (dualT (val t)))) (fun _ i => 16 - (intOf i).toNat)
  case atStart => exact ⟨0, by omega, rfl, rfl⟩
  case round =>
    obtain ⟨k, hk, rfl, rfl⟩ := hrel
    by_cases hlt : k < 16
    · have hc : C (k : Int) := ⟨by omega, by omega⟩
      have hn := Lib.hid (notp_ok hc)
      clear hc
      go_wp2_with fail
      refine (spec_l3ValueI _ _ _ H hn.out).mono ?_
      rintro e w' ⟨rfl, rfl⟩
      go_wp2_with fail
      refine (spec_l2Digit _ _ (notp_ok (val_ok _ _)).1 (notp_ok (val_ok _ _)).2).mono ?_
      rintro e w' ⟨rfl, rfl⟩
      go_wp2_with fail
      go_round
      case rel => exact ⟨k + 1, by omega, by go_num, congrArg Value.string (txt_succ k (dualT (val t)))⟩
      case measure => simp [intOf]; omega
    · obtain rfl : k = 16 := by omega
      go_wp2_with fail
      go_ret
      exact ⟨rfl, rfl⟩

theorem spec_l3Angel (r : ByteArray) (w : World) (H : Hid (okTxt 4 r = true)) : Calls Tryz.prog 60 #[.string r] w fun e w' => e = .returned (.string (txt 16 (angelT (val r)))) ∧ w = w' := by
  go_enter Tryz.func60, Tryz.ntmps60
  go_wp2_with fail
  go_loop [3, 4] (fun o i => ∃ k : Nat, k ≤ 16 ∧ i = .int .i64 k ∧ o = .string (txt k (angelT (val r)))) (fun _ i => 16 - (intOf i).toNat)
  case atStart => exact ⟨0, by omega, rfl, rfl⟩
  case round =>
    obtain ⟨k, hk, rfl, rfl⟩ := hrel
    by_cases hlt : k < 16
    · go_wp2_with fail
      refine (spec_l2Diamond _ _ _ H).mono ?_
      rintro e w' ⟨rfl, rfl⟩
      go_wp2_with fail
      refine (spec_l2Digit _ _ (dia_ok _ _).1 (dia_ok _ _).2).mono ?_
      rintro e w' ⟨rfl, rfl⟩
      go_wp2_with fail
      go_round
      case rel => exact ⟨k + 1, by omega, by go_num, congrArg Value.string (txt_succ k (angelT (val r)))⟩
      case measure => simp [intOf]; omega
    · obtain rfl : k = 16 := by omega
      go_wp2_with fail
      go_ret
      exact ⟨rfl, rfl⟩

theorem spec_RefinesTrans (t u : ByteArray) (w : World) (ht : t.size ≤ 4611686018427387904) (hu : u.size ≤ 4611686018427387904) : Calls Tryz.prog 58 #[.string t, .string u] w fun e w' => e = .returned (.bool (okTr t && okTr u && refT (val t) (val u))) ∧ w = w' := by
  cases hb : okTr t && okTr u
  · have H := Lib.hid hb; clear hb
    go_enter Tryz.func58, Tryz.ntmps58
    go_wp2_with fail
    refine (spec_l3Both _ _ _ ht hu).mono ?_
    rintro e w' ⟨rfl, rfl⟩
    rw [H.out]
    go_wp2_with fail
    go_ret
    exact ⟨rfl, rfl⟩
  · have H := Lib.hid hb; clear hb
    have hh : okTr t = true ∧ okTr u = true := by have := H.out; simpa using this
    have HT := Lib.hid (okTr_txt hh.1)
    have HU := Lib.hid (okTr_txt hh.2)
    clear hh
    go_enter Tryz.func58, Tryz.ntmps58
    go_wp2_with fail
    refine (spec_l3Both _ _ _ ht hu).mono ?_
    rintro e w' ⟨rfl, rfl⟩
    rw [H.out]
    go_wp2_with fail
    refine (spec_l3Join _ _ _ HT HU).mono ?_
    rintro e w' ⟨rfl, rfl⟩
    go_wp2_with fail
    go_ret
    refine ⟨ret_bool ?_, rfl⟩
    rw [Bool.true_and, str_beq]
    exact refT_join HU.out
end Go.Proofs.YtaeibhpkcikaaaaGreat
