/- Contracts: the program's turning, undoing, relations of transformers and repetitions. -/
import Derived.Test.YtaeibhpkcikaaaaGI
import Derived.Deep.RegionWith
namespace Go.Proofs.Ytaeibhpkcikaaaa
set_option linter.unusedVariables false
set_option linter.unusedSimpArgs false
open Go.RowKit Go.Shelf
set_option maxRecDepth 100000
set_option maxHeartbeats 1000000

/-- does the table go through or? -/
def orAt (t : Nat → Int) (p q : Nat) : Bool := t (bits .or .i64 (p : Int) (q : Int)).toNat == bits .or .i64 (t p) (t q)
def orAll (b : Nat → Nat → Bool) : Bool := (List.range 16).all fun p => (List.range 16).all fun q => b p q
theorem orAll_at {b : Nat → Nat → Bool} (h : orAll b = true) {p q : Nat} (hp : p < 16) (hq : q < 16) : b p q = true := by
  simp only [orAll, List.all_eq_true, List.mem_range] at h; exact h p hp q hq
theorem orAll_of {b : Nat → Nat → Bool} (h : ∀ p, p < 16 → ∀ q, q < 16 → b p q = true) : orAll b = true := by
  simp only [orAll, List.all_eq_true, List.mem_range]; exact h

theorem impl_pairwise (g : FuncId) (bv lb : Array Value) (b : Nat → Nat → Bool) (w : World) (eg : Enters Try.prog g) (hg : AsksR Try.prog g bv lb 16 b w) :
    Calls Try.prog 153 #[.func (.func g) bv lb] w fun e w' => e = .returned (.bool (orAll b)) ∧ Below w.heap.size w w' := by
  have eg' : ∀ args w, (callFunc g args).run Try.prog w = .ok (.enter g args) w := eg
  go_enter Try.func153, Try.ntmps153
  go_wp2_with fail
  go_loopw [3, 5] (fun _ i wr => ∃ k : Nat, k ≤ 16 ∧ i = .int .i64 k ∧ Hid (∀ p, p < k → ∀ q, q < 16 → b p q = true) ∧ Below w.heap.size w wr) (fun _ i _ => 16 - (intOf i).toNat)
  case atStart => exact ⟨0, by omega, rfl, fun j hj => by omega, Below.refl _ _⟩
  case round =>
    obtain ⟨k, hk, rfl, HK, hb⟩ := hrel
    by_cases hlt : k < 16
    · have ek : decide ((k : Int) < 16) = true := by rw [decide_eq_true_eq]; omega
      go_wp2_with fail
      obtain ⟨wo, rfl⟩ : ∃ wo : World, wo = wr := ⟨_, rfl⟩
      go_loopw [4, 8] (fun _ i wr => ∃ j : Nat, j ≤ 16 ∧ i = .int .i64 j ∧ Hid (∀ q, q < j → b k q = true) ∧ Below w.heap.size w wr) (fun _ i _ => 16 - (intOf i).toNat)
      case atStart => exact ⟨0, by omega, rfl, fun j hj => by omega, hb⟩
      case round =>
        clear hb
        obtain ⟨j, hj, rfl, HJ, hb⟩ := hrel
        by_cases hjt : j < 16
        · cases hbk : b k j
          all_goals
            have H1 := Lib.hid hbk; clear hbk
            go_wp2_with fail
            refine (hg _ k j hlt hjt hb).mono ?_
            rintro e w1 ⟨rfl, hb1⟩
            rw [H1.out]
            go_wp2_with fail
          · go_ret
            refine ⟨ret_bool (Eq.symm ?_), below_step hb hb1⟩
            rw [Bool.eq_false_iff]; intro h
            have := orAll_at h hlt hjt
            rw [H1.out] at this; cases this
          · go_roundw
            case rel => exact ⟨j + 1, by omega, by go_num, fun q hq => by
              rcases Nat.lt_or_ge q j with h | h
              · exact HJ.out q h
              · obtain rfl : q = j := by omega
                exact H1.out, below_step hb hb1⟩
            case measure => simp [intOf]; omega
        · obtain rfl : j = 16 := by omega
          go_wp2_with fail
          go_roundw
          case rel => exact ⟨k + 1, by omega, by go_num, fun p hp => by
            rcases Nat.lt_or_ge p k with h | h
            · exact HK.out p h
            · obtain rfl : p = k := by omega
              exact HJ.out, hb⟩
          case measure => simp [intOf]; omega
    · obtain rfl : k = 16 := by omega
      go_wp2_with fail
      go_ret
      exact ⟨ret_bool (orAll_of HK.out).symm, hb⟩

theorem impl_disj1 (t : Nat → Int) (b : Nat) (w : World) (HT : Row w b 93 16 t) (p q : Nat) (hp : p < 16) (hq : q < 16) :
    Calls Try.prog 155 #[.int .i64 p, .int .i64 q, .pointer (some ⟨b, 0, none⟩)] w fun e w' => e = .returned (.bool (orAt t p q)) ∧ Below w.heap.size w w' := by
  have hc : C (bits .or .i64 (p : Int) (q : Int)) := C.or (c_nat hp) (c_nat hq)
  have h1 := HT.cell p hp
  have h2 := HT.cell q hq
  have h3 := HT.cell (bits .or .i64 (p : Int) (q : Int)).toNat (lt16 hc)
  obtain ⟨h4, h5⟩ := hc
  go_enter Try.func155, Try.ntmps155
  go_wp2_with fail
  go_quiet (fail)
  go_wp2_with fail
  go_ret
  exact ⟨rfl, below_drewN (Below.refl _ _) _⟩

theorem impl_disjunctive (t : Nat → Int) (w : World) :
    Calls Try.prog 106 #[.agg (cs 16 t)] w fun e w' => e = .returned (.bool (orAll (orAt t))) ∧ Below w.heap.size w w' := by
  go_enter Try.func106, Try.ntmps106
  go_wp2_with fail
  refine (impl_pairwise _ _ _ (orAt t) _ (enters_of Try.func155 (by kernel_rfl) rfl) ?_).mono ?_
  · intro W p q hp hq hb
    exact impl_disj1 t _ W ((Row.new w _ 16 t).grown hb) p q hp hq
  rintro e w1 ⟨rfl, hb1⟩
  go_wp2_with fail
  go_ret
  exact ⟨rfl, below_step (below_new (Below.refl _ _) _) hb1⟩

/-- the relation of a table -/
def relT (t : Nat → Int) (s : Nat) : Int := mk (fun u => has (t (2 ^ u)) s) 4
theorem relT_ok (t : Nat → Int) : Cond (relT t) := fun _ => C.mk
def isRelT (t : Nat → Int) : Bool := orAll (orAt t) && (t 0 == 0)

end Go.Proofs.Ytaeibhpkcikaaaa
