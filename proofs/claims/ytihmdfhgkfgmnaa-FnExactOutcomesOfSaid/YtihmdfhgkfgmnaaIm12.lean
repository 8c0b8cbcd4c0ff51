/- Contracts: the program's exported functions on transformers and residuals. -/
import Derived.Test.YtihmdfhgkfgmnaaImF
import Derived.Test.YtihmdfhgkfgmnaaRes2
namespace Go.Proofs.Ytihmdfhgkfgmnaa
set_option linter.unusedVariables false
set_option linter.unusedSimpArgs false
open Go.RowKit Go.Shelf
set_option maxRecDepth 100000
set_option maxHeartbeats 1000000

theorem impl_meet1 (t u : Nat → Int) (b c : Nat) (w : World) (HT : Row w b 46 16 t) (HU : Row w c 46 16 u) (k : Nat) (hk : k < 16) :
    Calls Try.prog 135 #[.int .i64 k, .pointer (some ⟨b, 0, none⟩), .pointer (some ⟨c, 0, none⟩)] w fun e w' => e = .returned (.int .i64 (meetT t u k)) ∧ Below w.heap.size w w' := by
  have h1 := HT.cell k hk
  have h2 := HU.cell k hk
  go_enter Try.func135, Try.ntmps135
  go_wp2_with fail
  go_quiet (fail)
  go_wp2_with fail
  go_ret
  exact ⟨rfl, below_drewN (Below.refl _ _) _⟩
theorem impl_meet (t u : Nat → Int) (w : World) :
    Calls Try.prog 90 #[.agg (cs 16 t), .agg (cs 16 u)] w fun e w' => e = .returned (.agg (cs 16 (meetT t u))) ∧ Below w.heap.size w w' := by
  go_enter Try.func90, Try.ntmps90
  go_wp2_with fail
  refine (impl_makeTrans _ _ _ (meetT t u) _ (enters_of Try.func135 (by kernel_rfl) rfl) ?_).mono ?_
  · intro W k hk hb
    exact impl_meet1 t u _ _ W ((((Row.new w _ 16 t).old _).old _).grown hb) (((Row.newAt (w.alloc _) _ 16 u _ (by simp)).old _).grown hb) k hk
  rintro e w1 ⟨rfl, hb1⟩
  have HR0 : Row w1 (w.heap.size + 2) 46 16 (fun _ => 0) := (Row.zero16 _ _ _ (by simp)).grown hb1
  go_wp2_with (refine wp_store_Row rfl 46 _ _ rfl (w.heap.size + 2) rfl (f := meetT t u) rfl HR0 trans_i ?_)
  refine ret_Row rfl (w.heap.size + 2) rfl (HR0.setRow _) trans_u rfl trans_i rfl ⟨rfl, below_setRow ?_ (by omega) _⟩
  exact below_step (below_new (below_new (below_new (Below.refl _ _) _) _) _) hb1

theorem impl_join1 (t u : Nat → Int) (b c : Nat) (w : World) (HT : Row w b 46 16 t) (HU : Row w c 46 16 u) (k : Nat) (hk : k < 16) :
    Calls Try.prog 136 #[.int .i64 k, .pointer (some ⟨b, 0, none⟩), .pointer (some ⟨c, 0, none⟩)] w fun e w' => e = .returned (.int .i64 (joinT t u k)) ∧ Below w.heap.size w w' := by
  have h1 := HT.cell k hk
  have h2 := HU.cell k hk
  go_enter Try.func136, Try.ntmps136
  go_wp2_with fail
  go_quiet (fail)
  go_wp2_with fail
  go_ret
  exact ⟨rfl, below_drewN (Below.refl _ _) _⟩
theorem impl_join (t u : Nat → Int) (w : World) :
    Calls Try.prog 91 #[.agg (cs 16 t), .agg (cs 16 u)] w fun e w' => e = .returned (.agg (cs 16 (joinT t u))) ∧ Below w.heap.size w w' := by
  go_enter Try.func91, Try.ntmps91
  go_wp2_with fail
  refine (impl_makeTrans _ _ _ (joinT t u) _ (enters_of Try.func136 (by kernel_rfl) rfl) ?_).mono ?_
  · intro W k hk hb
    exact impl_join1 t u _ _ W ((((Row.new w _ 16 t).old _).old _).grown hb) (((Row.newAt (w.alloc _) _ 16 u _ (by simp)).old _).grown hb) k hk
  rintro e w1 ⟨rfl, hb1⟩
  have HR0 : Row w1 (w.heap.size + 2) 46 16 (fun _ => 0) := (Row.zero16 _ _ _ (by simp)).grown hb1
  go_wp2_with (refine wp_store_Row rfl 46 _ _ rfl (w.heap.size + 2) rfl (f := joinT t u) rfl HR0 trans_i ?_)
  refine ret_Row rfl (w.heap.size + 2) rfl (HR0.setRow _) trans_u rfl trans_i rfl ⟨rfl, below_setRow ?_ (by omega) _⟩
  exact below_step (below_new (below_new (below_new (Below.refl _ _) _) _) _) hb1

/-- what a transformer behind a relation's angel, and its demon, comes to -/
def behA (r u : Nat → Int) : Nat → Int := thenT (demonT (turn r)) u
def behD (r u : Nat → Int) : Nat → Int := thenT (angelT (turn r)) u
theorem behA_ok (r u : Nat → Int) : Cond (behA r u) := thenT_ok (demonT_ok _) u
theorem behD_ok (r u : Nat → Int) : Cond (behD r u) := thenT_ok (angelT_ok _) u

/-- how many states a condition has -/
def ones (p : Int) : Nat → Int
  | 0 => 0
  | k + 1 => ones p k + bits .and .i64 (p / 2 ^ k) 1
theorem ones_le {p : Int} (hp : C p) (k : Nat) (hk : k ≤ 4) : 0 ≤ ones p k ∧ ones p k ≤ k := by
  induction k with
  | zero => simp [ones]
  | succ k ih =>
    have h1 := ih (by omega)
    obtain ⟨a, rfl, ha⟩ := fit_nat hp.fit16
    have e : ((a : Int) / 2 ^ k) = ((a / 2 ^ k : Nat) : Int) := by push_cast; rfl
    have h2 : bits .and .i64 ((a : Int) / 2 ^ k) 1 = ((a / 2 ^ k &&& 1 : Nat) : Int) := by
      rw [e]; exact and_nat _ 1 (Nat.lt_of_le_of_lt (Nat.div_le_self _ _) ha) (by decide)
    have h3 : a / 2 ^ k &&& 1 ≤ 1 := Nat.and_le_right
    simp only [ones, h2]
    omega

theorem impl_CountStates (p : Int) (hp : C p) (w : World) :
    Calls Try.prog 101 #[.int .i64 p] w fun e w' => e = .returned (.int .i64 (ones p 4)) ∧ w = w' := by
  have HP := Lib.hid hp
  have HC := Lib.hid (isC_mk hp); clear hp
  go_enter Try.func101, Try.ntmps101
  go_wp2_with fail
  refine (impl_ConditionValid _ _).mono ?_
  rintro e w' ⟨rfl, rfl⟩
  rw [HC.out]
  go_wp2_with fail
  go_loop [3, 8] (fun o i => ∃ k : Nat, k ≤ 4 ∧ i = .int .i64 k ∧ o = .int .i64 (ones p k)) (fun _ i => 4 - (intOf i).toNat)
  case atStart => exact ⟨0, by omega, rfl, rfl⟩
  case round =>
    obtain ⟨k, hk, rfl, rfl⟩ := hrel
    by_cases hlt : k < 4
    · have h1 := ones_le HP.out k (by omega)
      have h2 := ones_le HP.out (k + 1) (by omega)
      simp only [ones] at h2
      obtain ⟨h1a, h1b⟩ := h1
      obtain ⟨h2a, h2b⟩ := h2
      go_wp2_with fail
      go_round
      case rel => exact ⟨k + 1, by omega, by go_num, rfl⟩
      case measure => simp [intOf]; omega
    · obtain rfl : k = 4 := by omega
      go_wp2_with fail
      go_ret
      exact ⟨rfl, rfl⟩

/-- is each state related to one alone? -/
def isFn (r : Nat → Int) : Bool := (List.range 4).all fun s => ones (r s) 4 == 1
def fnTo (r : Nat → Int) (k : Nat) : Bool := (List.range k).all fun s => ones (r s) 4 == 1
theorem fnTo_succ (r : Nat → Int) (k : Nat) : fnTo r (k + 1) = (fnTo r k && (ones (r k) 4 == 1)) := by simp [fnTo, List.range_succ]
theorem impl_IsFunction (t : ByteArray) (ht : t.size ≤ 4611686018427387904) (w : World) :
    Calls Try.prog 34 #[.string t] w fun e w' => e = .returned (.bool (okTxt 4 t && isFn (val t))) ∧ Below w.heap.size w w' := by
  cases h1 : okTxt 4 t
  all_goals
    have H1 := Lib.hid h1; clear h1
    go_enter Try.func34, Try.ntmps34
    go_wp2_with fail
    refine (impl_readRel _ ht _).mono ?_
    rintro e w1 ⟨rfl, hb1⟩
    rw [H1.out]
    have R1 : Row (w1.alloc (.cells (cs 4 (tab 4 t)) 39)) w1.heap.size 39 4 (tab 4 t) := Row.new w1 _ 4 _
    have hb := below_new hb1 (.cells (cs 4 (tab 4 t)) 39)
    go_wp2_with (first
      | (refine wp_store_New rfl 39 _ _ rfl rfl (f := tab 4 t) rfl rfl rel_i ?_)
      | (refine wp_load_Row rfl 39 _ rfl w1.heap.size rfl R1 rel_u rfl rel_i ?_))
  · go_loop [4, 6, 13] (fun o _ i => ∃ k : Nat, k ≤ 4 ∧ i = .int .i64 k ∧ o = .bool false) (fun _ _ i => 4 - (intOf i).toNat)
    case atStart => exact ⟨0, by omega, rfl, rfl⟩
    case round =>
      obtain ⟨k, hk, rfl, rfl⟩ := hrel
      by_cases hlt : k < 4
      · have hx := fun W => run_index_cs (P := Try.prog) W 39 3 4 (tab 4 t) k .i64 hlt rel_u Try.underlying3 (by kernel_rfl)
        go_wp2_with fail
        go_round
        case rel => exact ⟨k + 1, by omega, by go_num, rfl⟩
        case measure => simp [intOf]; omega
      · obtain rfl : k = 4 := by omega
        go_wp2_with fail
        go_ret
        exact ⟨rfl, hb⟩
  · go_loop [4, 6, 13] (fun o _ i => ∃ k : Nat, k ≤ 4 ∧ i = .int .i64 k ∧ o = .bool (fnTo (val t) k)) (fun _ _ i => 4 - (intOf i).toNat)
    case atStart => exact ⟨0, by omega, rfl, rfl⟩
    case round =>
      obtain ⟨k, hk, rfl, rfl⟩ := hrel
      by_cases hlt : k < 4
      · have hx := fun W => run_index_cs (P := Try.prog) W 39 3 4 (tab 4 t) k .i64 hlt rel_u Try.underlying3 (by kernel_rfl)
        cases hf : fnTo (val t) k
        · have HF := Lib.hid hf; clear hf
          go_wp2_with fail
          go_round
          case rel => exact ⟨k + 1, by omega, by go_num, by rw [fnTo_succ, HF.out]; rfl⟩
          case measure => simp [intOf]; omega
        · have HF := Lib.hid hf; clear hf
          have HV : Hid (tab 4 t k = val t k) := by show tab 4 t k = val t k; rw [tab_val H1.out]
          have HC := Lib.hid (tab_ok 4 t k)
          go_wp2_with fail
          refine (impl_CountStates _ HC.out _).mono ?_
          rintro e w' ⟨rfl, rfl⟩
          rw [HV.out]
          go_wp2_with fail
          go_round
          case rel => exact ⟨k + 1, by omega, by go_num, by rw [fnTo_succ, HF.out]; rfl⟩
          case measure => simp [intOf]; omega
      · obtain rfl : k = 4 := by omega
        go_wp2_with fail
        go_ret
        exact ⟨rfl, hb⟩
end Go.Proofs.Ytihmdfhgkfgmnaa
