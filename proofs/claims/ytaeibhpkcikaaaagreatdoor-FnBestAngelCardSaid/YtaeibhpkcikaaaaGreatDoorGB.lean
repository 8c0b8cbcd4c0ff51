/- Contracts: the reference's functions on conditions and relations. -/
import Derived.Test.YtaeibhpkcikaaaaGreatDoorGA
import Derived.RegionTactic
import Derived.BigRegion
import Derived.Deep.QuietTactic
import Derived.BigQuiet
/- Sp2 -/
namespace Go.Proofs.YtaeibhpkcikaaaaGreatDoor
set_option linter.unusedVariables false
set_option linter.unusedSimpArgs false
open Go.RowKit Go.Shelf
set_option maxRecDepth 100000
set_option maxHeartbeats 1000000

theorem spec_l1In (n a b : Int) (w : World) : Calls Tryz.prog 45 #[.int .i64 n, .int .i64 a, .int .i64 b] w fun e w' => e = .returned (.bool (decide (a ≤ n) && decide (n ≤ b))) ∧ w = w' := by
  by_cases h1 : a ≤ n
  · have e1 : decide (a ≤ n) = true := by simpa using h1
    go_enter Tryz.func45, Tryz.ntmps45
    go_wp2_with fail
    go_ret
    exact ⟨ret_bool (by simp [h1]), rfl⟩
  · have e1 : decide (a ≤ n) = false := by simpa using h1
    go_enter Tryz.func45, Tryz.ntmps45
    go_wp2_with fail
    go_ret
    exact ⟨rfl, rfl⟩

/-- is p a condition? -/
def isC (p : Int) : Bool := decide (0 ≤ p) && decide (p ≤ 15)
theorem isC_mk {p : Int} (h : 0 ≤ p ∧ p ≤ 15) : isC p = true := by simp [isC, h.1, h.2]
theorem isC_get {p : Int} (h : isC p = true) : 0 ≤ p ∧ p ≤ 15 := by simpa [isC] using h

theorem spec_ConditionValid (p : Int) (w : World) : Calls Tryz.prog 13 #[.int .i64 p] w fun e w' => e = .returned (.bool (isC p)) ∧ w = w' := by
  go_enter Tryz.func13, Tryz.ntmps13
  go_wp2_with fail
  refine (spec_l1In _ _ _ _).mono ?_
  rintro e w' ⟨rfl, rfl⟩
  go_wp2_with fail
  go_ret
  exact ⟨rfl, rfl⟩

theorem spec_l1Has (p : Int) (k : Nat) (w : World) (hk : k ≤ 63) : Calls Tryz.prog 47 #[.int .i64 p, .int .i64 k] w fun e w' => e = .returned (.bool (has p k)) ∧ w = w' := by
  go_enter Tryz.func47, Tryz.ntmps47
  go_wp2_with fail
  go_ret
  exact ⟨rfl, rfl⟩

theorem spec_l2To (s : ByteArray) (n k : Nat) (w : World) (H : Hid (okTxt n s = true)) (hk : k < n) : Calls Tryz.prog 48 #[.string s, .int .i64 k] w fun e w' => e = .returned (.int .i64 (val s k)) ∧ w = w' := by
  have hsz : k < s.size := by rw [okTxt_size H.out]; exact hk
  go_enter Tryz.func48, Tryz.ntmps48
  go_wp2_with fail
  refine (spec_l2Hex _ _).mono ?_
  rintro e w' ⟨rfl, rfl⟩
  go_wp2_with fail
  go_ret
  exact ⟨ret_int (okTxt_val H.out k hk).symm, rfl⟩

theorem spec_l2Diamond (r : ByteArray) (p : Int) (w : World) (H : Hid (okTxt 4 r = true)) : Calls Tryz.prog 119 #[.string r, .int .i64 p] w fun e w' => e = .returned (.int .i64 (dia (val r) p)) ∧ w = w' := by
  go_enter Tryz.func119, Tryz.ntmps119
  go_wp2_with fail
  go_loop [5, 6] (fun o i => ∃ k : Nat, k ≤ 4 ∧ i = .int .i64 k ∧ o = .int .i64 (mk (fun s => bits .and .i64 (val r s) p != 0) k)) (fun _ i => 4 - (intOf i).toNat)
  case atStart => exact ⟨0, by omega, rfl, rfl⟩
  case round =>
    obtain ⟨k, hk, rfl, rfl⟩ := hrel
    by_cases hlt : k < 4
    · cases hb : (bits .and .i64 (val r k) p != 0)
      all_goals
        have H1 := Lib.hid hb; clear hb
        go_wp2_with fail
        refine (spec_l2To _ 4 _ _ H hlt).mono ?_
        rintro e w' ⟨rfl, rfl⟩
        have e1 := H1.out
        go_wp2_with fail
        go_round
        case rel => exact ⟨k + 1, by omega, by go_num, by simp [mk, orf, H1.out, sh]⟩
        case measure => simp [intOf]; omega
    · obtain rfl : k = 4 := by omega
      go_wp2_with fail
      go_ret
      exact ⟨rfl, rfl⟩

end Go.Proofs.YtaeibhpkcikaaaaGreatDoor

/- Im2 -/
namespace Go.Proofs.YtaeibhpkcikaaaaGreatDoor
set_option linter.unusedVariables false
set_option linter.unusedSimpArgs false
open Go.RowKit Go.Shelf
set_option maxRecDepth 100000
set_option maxHeartbeats 1000000

theorem impl_ConditionValid (p : Int) (w : World) : Calls Tryz.prog 23 #[.int .i64 p] w fun e w' => e = .returned (.bool (isC p)) ∧ w = w' := by
  by_cases h1 : 0 ≤ p
  · have e1 : decide (0 ≤ p) = true := by simpa using h1
    go_enter Tryz.func23, Tryz.ntmps23
    go_wp2_with fail
    go_ret
    exact ⟨ret_bool (by simp only [isC, e1, Bool.true_and]), rfl⟩
  · have e1 : decide (0 ≤ p) = false := by simpa using h1
    go_enter Tryz.func23, Tryz.ntmps23
    go_wp2_with fail
    go_ret
    exact ⟨ret_bool (by simp only [isC, e1, Bool.false_and]), rfl⟩

theorem impl_rel_has (r : Nat → Int) (s t : Nat) (hs : s < 4) (ht : t < 4) (w : World) :
    Calls Tryz.prog 65 #[.agg (cs 4 r), .int .i64 s, .int .i64 t] w fun e w' => e = .returned (.bool (has (r s) t)) ∧ Below w.heap.size w w' := by
  go_enter Tryz.func65, Tryz.ntmps65
  go_wp2_with fail
  go_ret
  exact ⟨rfl, (Below.refl _ _).alloc (Nat.le_refl _) _⟩

theorem rel_u : Tryz.prog.underlying 82 = some (.array 4 3) := Tryz.underlying82
theorem rel_i : (Tryz.prog.info? 82).map (·.size) = some 4 := by kernel_rfl

theorem impl_states (g : FuncId) (bv lb : Array Value) (b : Nat → Bool) (w : World) (eg : Enters Tryz.prog g) (hg : AsksP Tryz.prog g bv lb 4 b w) :
    Calls Tryz.prog 124 #[.func (.func g) bv lb] w fun e w' => e = .returned (.int .i64 (mk b 4)) ∧ Below w.heap.size w w' := by
  have eg' : ∀ args w, (callFunc g args).run Tryz.prog w = .ok (.enter g args) w := eg
  go_enter Tryz.func124, Tryz.ntmps124
  go_wp2_with fail
  go_loopw [3, 5] (fun o i wr => ∃ k : Nat, k ≤ 4 ∧ i = .int .i64 k ∧ o = .int .i64 (mk b k) ∧ Below w.heap.size w wr) (fun _ i _ => 4 - (intOf i).toNat)
  case atStart => exact ⟨0, by omega, rfl, rfl, Below.refl _ _⟩
  case round =>
    obtain ⟨k, hk, rfl, rfl, hb⟩ := hrel
    by_cases hlt : k < 4
    · cases hbk : b k
      all_goals
        have H1 := Lib.hid hbk; clear hbk
        go_wp2_with fail
        refine (hg _ k hlt hb).mono ?_
        rintro e w1 ⟨rfl, hb1⟩
        rw [H1.out]
        go_wp2_with fail
        go_roundw
        case rel => exact ⟨k + 1, by omega, by go_num, by simp [mk, orf, H1.out, sh], hb.trans (hb1.mono hb.size)⟩
        case measure => simp [intOf]; omega
    · obtain rfl : k = 4 := by omega
      go_wp2_with fail
      go_ret
      exact ⟨rfl, hb⟩

theorem impl_diamond1 (r : Nat → Int) (p : Int) (b c : Nat) (w : World) (HR : Row w b 82 4 r) (hc : w.cell? ⟨c, 0, none⟩ = some (.int .i64 p)) (s : Nat) (hs : s < 4) :
    Calls Tryz.prog 125 #[.int .i64 s, .pointer (some ⟨b, 0, none⟩), .pointer (some ⟨c, 0, none⟩)] w fun e w' => e = .returned (.bool (bits .and .i64 (r s) p != 0)) ∧ Below w.heap.size w w' := by
  have h1 := HR.cell s hs
  go_enter Tryz.func125, Tryz.ntmps125
  go_wp2_with fail
  go_quiet (fail)
  go_wp2_with fail
  go_ret
  exact ⟨rfl, below_drewN (Below.refl _ _) _⟩

theorem impl_diamond (r : Nat → Int) (p : Int) (w : World) :
    Calls Tryz.prog 113 #[.agg (cs 4 r), .int .i64 p] w fun e w' => e = .returned (.int .i64 (dia r p)) ∧ Below w.heap.size w w' := by
  go_enter Tryz.func113, Tryz.ntmps113
  go_wp2_with fail
  refine (impl_states _ _ _ (fun s => bits .and .i64 (r s) p != 0) _ (enters_of Tryz.func125 (by kernel_rfl) rfl) ?_).mono ?_
  · intro W s hs hb
    exact impl_diamond1 r p _ _ W ((Row.old (Row.new w _ 4 r) _).grown hb) ((hb.cell (p := ⟨w.heap.size + 1, 0, none⟩) (by simp)).trans (World.cell?_alloc_at _ _ _ _ (by simp))) s hs
  rintro e w1 ⟨rfl, hb1⟩
  go_wp2_with fail
  go_ret
  exact ⟨rfl, (((Below.refl _ _).alloc (Nat.le_refl _) _).alloc (by simp) _).trans (hb1.mono (by simp; omega))⟩

theorem impl_box1 (r : Nat → Int) (p : Int) (b c : Nat) (w : World) (HR : Row w b 82 4 r) (hc : w.cell? ⟨c, 0, none⟩ = some (.int .i64 p)) (s : Nat) (hs : s < 4) :
    Calls Tryz.prog 126 #[.int .i64 s, .pointer (some ⟨b, 0, none⟩), .pointer (some ⟨c, 0, none⟩)] w fun e w' => e = .returned (.bool (bits .andNot .i64 (r s) p == 0)) ∧ Below w.heap.size w w' := by
  have h1 := HR.cell s hs
  go_enter Tryz.func126, Tryz.ntmps126
  go_wp2_with fail
  go_quiet (fail)
  go_wp2_with fail
  go_ret
  exact ⟨rfl, below_drewN (Below.refl _ _) _⟩

theorem impl_box (r : Nat → Int) (p : Int) (w : World) :
    Calls Tryz.prog 114 #[.agg (cs 4 r), .int .i64 p] w fun e w' => e = .returned (.int .i64 (box r p)) ∧ Below w.heap.size w w' := by
  go_enter Tryz.func114, Tryz.ntmps114
  go_wp2_with fail
  refine (impl_states _ _ _ (fun s => bits .andNot .i64 (r s) p == 0) _ (enters_of Tryz.func126 (by kernel_rfl) rfl) ?_).mono ?_
  · intro W s hs hb
    exact impl_box1 r p _ _ W ((Row.old (Row.new w _ 4 r) _).grown hb) ((hb.cell (p := ⟨w.heap.size + 1, 0, none⟩) (by simp)).trans (World.cell?_alloc_at _ _ _ _ (by simp))) s hs
  rintro e w1 ⟨rfl, hb1⟩
  go_wp2_with fail
  go_ret
  exact ⟨rfl, (((Below.refl _ _).alloc (Nat.le_refl _) _).alloc (by simp) _).trans (hb1.mono (by simp; omega))⟩


end Go.Proofs.YtaeibhpkcikaaaaGreatDoor

/- Im2b -/
namespace Go.Proofs.YtaeibhpkcikaaaaGreatDoor
set_option linter.unusedVariables false
set_option linter.unusedSimpArgs false
open Go.RowKit Go.Shelf
set_option maxRecDepth 100000
set_option maxHeartbeats 1000000

/-- in every world that w has grown to, calling g with two relations hands back F of them -/
def AsksRR (P : Program) (g : FuncId) (bv lb : Array Value) (F : (Nat → Int) → (Nat → Int) → Nat → Int) (w : World) : Prop :=
  ∀ (W : World) (x y : Nat → Int), Cond x → Cond y → Below w.heap.size w W → Calls P g (bv ++ (#[.agg (cs 4 x), .agg (cs 4 y)] ++ lb)) W fun e W' => e = .returned (.agg (cs 4 (F x y))) ∧ Below W.heap.size W W'
/-- .. with a relation and a condition hands back the number F of them -/
def AsksRC (P : Program) (g : FuncId) (bv lb : Array Value) (F : (Nat → Int) → Int → Int) (w : World) : Prop :=
  ∀ (W : World) (x : Nat → Int) (p : Int), Cond x → C p → Below w.heap.size w W → Calls P g (bv ++ (#[.agg (cs 4 x), .int .i64 p] ++ lb)) W fun e W' => e = .returned (.int .i64 (F x p)) ∧ Below W.heap.size W W'


end Go.Proofs.YtaeibhpkcikaaaaGreatDoor

/- Sp2b -/
namespace Go.Proofs.YtaeibhpkcikaaaaGreatDoor
set_option linter.unusedVariables false
set_option linter.unusedSimpArgs false
open Go.RowKit Go.Shelf
set_option maxRecDepth 100000
set_option maxHeartbeats 1000000

theorem dia_congr {r q : Nat → Int} (h : ∀ k, k < 4 → r k = q k) (p : Int) : dia r p = dia q p := by
  unfold dia mk
  simp only [orf, h 0 (by decide), h 1 (by decide), h 2 (by decide), h 3 (by decide)]
theorem box_congr {r q : Nat → Int} (h : ∀ k, k < 4 → r k = q k) (p : Int) : box r p = box q p := by
  unfold box mk
  simp only [orf, h 0 (by decide), h 1 (by decide), h 2 (by decide), h 3 (by decide)]
/-- a box is no diamond of the others -/
theorem box_notp {r : Nat → Int} (hr : Cond r) {p : Int} (hp : C p) : notp (dia r (notp p)) = box r p := by
  refine C.ext (notp_ok (dia_ok _ _)) (box_ok _ _) fun i hi => ?_
  rw [has_notp (dia_ok _ _) hi]
  unfold dia box
  rw [has_mk _ (by decide), has_mk _ (by decide)]
  simp only [hi, decide_true, Bool.true_and]
  have e : bits .and .i64 (r i) (notp p) = bits .andNot .i64 (r i) p := by
    refine C.ext (C.and (hr i) (notp_ok hp)) (C.dif (hr i) hp) fun j hj => ?_
    rw [has_and (C.fit16 (hr i)) (C.fit16 (notp_ok hp)), has_dif (C.fit16 (hr i)) (C.fit16 hp), has_notp hp hj]
  rw [e]
  cases h : (bits .andNot .i64 (r i) p == 0) <;> simp_all [bne]
/-- the states that lead into one state -/
theorem dia_sh {r : Nat → Int} (hr : Cond r) {t : Nat} (ht : t < 4) : dia r (sh t) = turn r t := by
  refine C.ext (dia_ok _ _) C.mk fun i hi => ?_
  unfold dia turn
  rw [has_mk _ (by decide), has_mk _ (by decide)]
  simp only [hi, decide_true, Bool.true_and]
  have hs : C (sh t) := (fit_sh (n := 4) (by decide) ht).c
  rw [Bool.eq_iff_iff]
  constructor
  · intro h
    cases hh : has (r i) t
    · exfalso
      have e : bits .and .i64 (r i) (sh t) = 0 := C.ext (C.and (hr i) hs) C.zero fun j hj => by
        rw [has_and (C.fit16 (hr i)) (C.fit16 hs), has_sh (by omega), has_zero]
        by_cases e : t = j
        · subst e; simp [hh]
        · simp [e]
      rw [e] at h; simp at h
    · rfl
  · intro h
    rw [bne_iff_ne]
    intro e
    have := congrArg (fun x => has x t) e
    simp only [has_and (C.fit16 (hr i)) (C.fit16 hs), has_sh (show t < 16 by omega), has_zero, h] at this
    simp at this
theorem turn_ok (r : Nat → Int) : Cond (turn r) := fun _ => C.mk

end Go.Proofs.YtaeibhpkcikaaaaGreatDoor

/- Sp3 -/
namespace Go.Proofs.YtaeibhpkcikaaaaGreatDoor
set_option linter.unusedVariables false
set_option linter.unusedSimpArgs false
open Go.RowKit Go.Shelf
set_option maxRecDepth 100000
set_option maxHeartbeats 1000000

theorem spec_l3Value (s : ByteArray) (k : Nat) (w : World) (H : Hid (okTxt 16 s = true)) (hk : k < 16) : Calls Tryz.prog 73 #[.string s, .int .i64 k] w fun e w' => e = .returned (.int .i64 (val s k)) ∧ w = w' := by
  have hsz : k < s.size := by rw [okTxt_size H.out]; exact hk
  go_enter Tryz.func73, Tryz.ntmps73
  go_wp2_with fail
  refine (spec_l2Hex _ _).mono ?_
  rintro e w' ⟨rfl, rfl⟩
  go_wp2_with fail
  go_ret
  exact ⟨ret_int (okTxt_val H.out k hk).symm, rfl⟩
theorem spec_l3ValueI (s : ByteArray) (p : Int) (w : World) (H : Hid (okTxt 16 s = true)) (hp : C p) : Calls Tryz.prog 73 #[.string s, .int .i64 p] w fun e w' => e = .returned (.int .i64 (val s p.toNat)) ∧ w = w' := by
  have h := spec_l3Value s p.toNat w H (by have := hp.2; omega)
  rwa [Int.toNat_of_nonneg hp.1] at h

theorem spec_l3Then (t u : ByteArray) (w : World) (H : Hid (okTxt 16 t = true)) (H2 : Hid (okTxt 16 u = true)) : Calls Tryz.prog 103 #[.string t, .string u] w fun e w' => e = .returned (.string (txt 16 (thenT (val t) (val u)))) ∧ w = w' := by
  go_enter Tryz.func103, Tryz.ntmps103
  go_wp2_with fail
  go_loop [5, 6] (fun o i => ∃ k : Nat, k ≤ 16 ∧ i = .int .i64 k ∧ o = .string (txt k (thenT (val t) (val u)))) (fun _ i => 16 - (intOf i).toNat)
  case atStart => exact ⟨0, by omega, rfl, rfl⟩
  case round =>
    obtain ⟨k, hk, rfl, rfl⟩ := hrel
    by_cases hlt : k < 16
    · go_wp2_with fail
      refine (spec_l3Value _ _ _ H2 hlt).mono ?_
      rintro e w' ⟨rfl, rfl⟩
      go_wp2_with fail
      refine (spec_l3ValueI _ _ _ H (val_ok _ _)).mono ?_
      rintro e w' ⟨rfl, rfl⟩
      go_wp2_with fail
      refine (spec_l2Digit _ _ (val_ok _ _).1 (val_ok _ _).2).mono ?_
      rintro e w' ⟨rfl, rfl⟩
      go_wp2_with fail
      go_round
      case rel => exact ⟨k + 1, by omega, by go_num, congrArg Value.string (txt_succ k (thenT (val t) (val u)))⟩
      case measure => simp [intOf]; omega
    · obtain rfl : k = 16 := by omega
      go_wp2_with fail
      go_ret
      exact ⟨rfl, rfl⟩

theorem spec_l3Join (t u : ByteArray) (w : World) (H : Hid (okTxt 16 t = true)) (H2 : Hid (okTxt 16 u = true)) : Calls Tryz.prog 105 #[.string t, .string u] w fun e w' => e = .returned (.string (txt 16 (joinT (val t) (val u)))) ∧ w = w' := by
  go_enter Tryz.func105, Tryz.ntmps105
  go_wp2_with fail
  go_loop [5, 6] (fun o i => ∃ k : Nat, k ≤ 16 ∧ i = .int .i64 k ∧ o = .string (txt k (joinT (val t) (val u)))) (fun _ i => 16 - (intOf i).toNat)
  case atStart => exact ⟨0, by omega, rfl, rfl⟩
  case round =>
    obtain ⟨k, hk, rfl, rfl⟩ := hrel
    by_cases hlt : k < 16
    · go_wp2_with fail
      refine (spec_l3Value _ _ _ H hlt).mono ?_
      rintro e w' ⟨rfl, rfl⟩
      go_wp2_with fail
      refine (spec_l3Value _ _ _ H2 hlt).mono ?_
      rintro e w' ⟨rfl, rfl⟩
      go_wp2_with fail
      refine (spec_l2Digit _ _ (C.or (val_ok _ _) (val_ok _ _)).1 (C.or (val_ok _ _) (val_ok _ _)).2).mono ?_
      rintro e w' ⟨rfl, rfl⟩
      go_wp2_with fail
      go_round
      case rel => exact ⟨k + 1, by omega, by go_num, congrArg Value.string (txt_succ k (joinT (val t) (val u)))⟩
      case measure => simp [intOf]; omega
    · obtain rfl : k = 16 := by omega
      go_wp2_with fail
      go_ret
      exact ⟨rfl, rfl⟩

theorem spec_l3Dual (t : ByteArray) (w : World) (H : Hid (okTxt 16 t = true)) : Calls Tryz.prog 101 #[.string t] w fun e w' => e = .returned (.string (txt 16 (dualT (val t)))) ∧ w = w' := by
  go_enter Tryz.func101, Tryz.ntmps101
  go_wp2_with fail
  go_loop [3, 4] (fun o i => ∃ k : Nat, k ≤ 16 ∧ i = .int .i64 k ∧ o = .string (txt k (dualT (val t)))) (fun _ i => 16 - (intOf i).toNat)
  case atStart => exact ⟨0, by omega, rfl, rfl⟩
  case round =>
    obtain ⟨k, hk, rfl, rfl⟩ := hrel
    by_cases hlt : k < 16
    · have hc : C (k : Int) := ⟨by omega, by omega⟩
      have hn := Lib.hid (notp_ok hc)
      clear hc
      go_wp2_with fail
      refine (spec_l3ValueI _ _ _ H hn.out).mono ?_
      rintro e w' ⟨rfl, rfl⟩
      go_wp2_with fail
      refine (spec_l2Digit _ _ (notp_ok (val_ok _ _)).1 (notp_ok (val_ok _ _)).2).mono ?_
      rintro e w' ⟨rfl, rfl⟩
      go_wp2_with fail
      go_round
      case rel => exact ⟨k + 1, by omega, by go_num, congrArg Value.string (txt_succ k (dualT (val t)))⟩
      case measure => simp [intOf]; omega
    · obtain rfl : k = 16 := by omega
      go_wp2_with fail
      go_ret
      exact ⟨rfl, rfl⟩

theorem spec_l3Angel (r : ByteArray) (w : World) (H : Hid (okTxt 4 r = true)) : Calls Tryz.prog 102 #[.string r] w fun e w' => e = .returned (.string (txt 16 (angelT (val r)))) ∧ w = w' := by
  go_enter Tryz.func102, Tryz.ntmps102
  go_wp2_with fail
  go_loop [3, 4] (fun o i => ∃ k : Nat, k ≤ 16 ∧ i = .int .i64 k ∧ o = .string (txt k (angelT (val r)))) (fun _ i => 16 - (intOf i).toNat)
  case atStart => exact ⟨0, by omega, rfl, rfl⟩
  case round =>
    obtain ⟨k, hk, rfl, rfl⟩ := hrel
    by_cases hlt : k < 16
    · go_wp2_with fail
      refine (spec_l2Diamond _ _ _ H).mono ?_
      rintro e w' ⟨rfl, rfl⟩
      go_wp2_with fail
      refine (spec_l2Digit _ _ (dia_ok _ _).1 (dia_ok _ _).2).mono ?_
      rintro e w' ⟨rfl, rfl⟩
      go_wp2_with fail
      go_round
      case rel => exact ⟨k + 1, by omega, by go_num, congrArg Value.string (txt_succ k (angelT (val r)))⟩
      case measure => simp [intOf]; omega
    · obtain rfl : k = 16 := by omega
      go_wp2_with fail
      go_ret
      exact ⟨rfl, rfl⟩

end Go.Proofs.YtaeibhpkcikaaaaGreatDoor
