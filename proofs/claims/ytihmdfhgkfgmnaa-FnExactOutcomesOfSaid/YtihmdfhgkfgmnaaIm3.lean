/- Contracts: the program's functions on transformers, first part. -/
import Derived.Test.YtihmdfhgkfgmnaaSp3
namespace Go.Proofs.Ytihmdfhgkfgmnaa
set_option linter.unusedVariables false
set_option linter.unusedSimpArgs false
open Go.RowKit Go.Shelf
set_option maxRecDepth 100000
set_option maxHeartbeats 1000000

theorem trans_u : Try.prog.underlying 46 = some (.array 16 3) := Try.underlying46
theorem trans_i : (Try.prog.info? 46).map (·.size) = some 16 := by kernel_rfl

theorem impl_makeTrans (g : FuncId) (bv lb : Array Value) (f : Nat → Int) (w : World) (eg : Enters Try.prog g) (hg : AsksI Try.prog g bv lb 16 f w) :
    Calls Try.prog 82 #[.func (.func g) bv lb] w fun e w' => e = .returned (.agg (cs 16 f)) ∧ Below w.heap.size w w' := by
  have eg' : ∀ args w, (callFunc g args).run Try.prog w = .ok (.enter g args) w := eg
  go_enter Try.func82, Try.ntmps82
  go_wp2_with fail
  rw [← cs16_zero]
  go_loopw [6] (fun i wr => ∃ (k : Nat) (h : Nat → Int), k ≤ 16 ∧ i = .int .i64 k ∧ Hid (∀ j, j < k → h j = f j) ∧ Row wr (w.heap.size + 1) 46 16 h ∧ Row wr w.heap.size 46 16 (fun _ => 0) ∧ Below w.heap.size w wr) (fun i _ => 16 - (intOf i).toNat)
  case atStart => exact ⟨0, fun _ => 0, by omega, rfl, fun j hj => by omega, ⟨heap_alloc2_new _ _ _⟩, ⟨heap_alloc2_old _ _ _⟩, ((Below.refl _ _).alloc (Nat.le_refl _) _).alloc (by simp) _⟩
  case round =>
    obtain ⟨k, h, hk, rfl, H, HR, HR0, hb⟩ := hrel
    by_cases hlt : k < 16
    · go_wp2_with fail
      refine (hg _ k hlt hb).mono ?_
      rintro e w1 ⟨rfl, hb1⟩
      have hc := (HR.grown hb1).cell k hlt
      have hf := (HR.grown hb1).free k
      go_wp2_with fail
      go_roundw
      case rel => exact ⟨k + 1, upd h k (f k), by omega, by go_num, fun j hj => by
        rcases Nat.lt_or_ge j k with hj | hj
        · rw [upd_other _ _ _ _ (by omega)]; exact H.out j hj
        · obtain rfl : j = k := by omega
          rw [upd_same], (HR.grown hb1).set k _, (HR0.grown hb1).setAt _ _ _ (by omega), below_setAt (below_step hb hb1) _ _ (by omega) _⟩
      case measure => simp [intOf]; omega
    · obtain rfl : k = 16 := by omega
      go_wp2_with (first
        | (refine wp_load_Row rfl 46 _ rfl (w.heap.size + 1) rfl HR trans_u rfl trans_i ?_)
        | (refine wp_store_Row rfl 46 _ _ rfl w.heap.size rfl (f := h) rfl HR0 trans_i ?_))
      refine ret_Row rfl w.heap.size rfl (HR0.setRow _) trans_u rfl trans_i rfl ⟨?_, below_setRow hb (Nat.le_refl _) _⟩
      exact ret_agg (cs_ext fun j hj => H.out j hj)

/-! ### reading a transformer -/
end Go.Proofs.Ytihmdfhgkfgmnaa
