/- Plays: the reference's CountPlays and OutcomesOf. -/
import Derived.Test.YtaeibhpkcikaaaaSpP9
import Derived.Test.YtaeibhpkcikaaaaSpQ
import Derived.ChangeKeysEq
namespace Go.Proofs.Ytaeibhpkcikaaaa
set_option linter.unusedVariables false
set_option linter.unusedSimpArgs false
open Go.RowKit Go.Shelf
set_option maxRecDepth 100000
set_option maxHeartbeats 4000000

theorem field0_sum (x y z u : Value) (w : World) : (Instr.field 100 (.agg #[x, y, z, u]) 0).run Try.prog w = .ok x w := by
  have hp : (part 3 #[x, y, z, u] 0).run Try.prog w = .ok x w := run_part_plain w (by kernel_rfl) rfl
  unfold Instr.field
  simp [Sem.run_bind, run_underlying Try.underlying100, asAgg, hp]
/-- what all plays of a small contract come to -/
def Ct.all (t : Ct) (s : Nat) : Sm := allA 11 s [t]
theorem all_spec (t : Ct) (ht : t.WF) (hl : t.len ≤ 200) (hf : t.flat = true) (hn : t.num ≤ 10) (s : Nat) (hs : s < 4) (w : World) (g cap : Nat) (hc : w.cell? ⟨g, 0, none⟩ = some (.string t.text)) (hcap : 1 ≤ cap) :
    Calls Try.prog 85 #[.agg #[.slice (some ⟨g, 0, none⟩) 1 cap, .int .i64 s]] w (SumEnd (t.all s) w) :=
  spec_l6All 11 s hs [t] (fit_one ht hl) (fun x hx => by simp at hx; subst hx; exact hf) (by simp [tot]; omega) (by simp [tot]; omega) g cap hcap w ⟨fun j x hj => by
    match j, hj with
    | 0, hj => simp at hj; subst hj; exact hc
    | j + 1, hj => simp at hj⟩
theorem spec_CountPlays_no (c : ByteArray) (s : Int) (w : World) (hc : c.size ≤ 4611686018427387904) (h : (isCt c && stOk s) = false) : Calls Try.prog 34 #[.string c, .int .i64 s] w fun e w' => e = .returned (.int .i64 (-1)) ∧ w = w' := by
  go_enter Try.func34, Try.ntmps34
  go_wp2_with fail
  refine (spec_l6Small_no c s _ hc h).mono ?_
  rintro e w' ⟨rfl, rfl⟩
  go_wp2_with fail
  go_ret
  exact ⟨rfl, rfl⟩
theorem spec_CountPlays_big (t : Ct) (ht : t.WF) (hl : t.len ≤ 200) (s : Nat) (hs : s < 4) (w : World) (h : (t.flat && decide (t.num ≤ 10)) = false) : Calls Try.prog 34 #[.string t.text, .int .i64 s] w fun e w' => e = .returned (.int .i64 (-1)) ∧ Below w.heap.size w w' := by
  have H := Lib.hid h
  clear h
  go_enter Try.func34, Try.ntmps34
  go_wp2_with fail
  refine (spec_l6Small t ht hl s hs _).mono ?_
  rintro e w1 ⟨rfl, hb1⟩
  rw [H.out]
  go_wp2_with fail
  go_ret
  exact ⟨rfl, hb1⟩
theorem spec_CountPlays_yes (t : Ct) (ht : t.WF) (hl : t.len ≤ 200) (s : Nat) (hs : s < 4) (w : World) (hf : t.flat = true) (hn : t.num ≤ 10) : Calls Try.prog 34 #[.string t.text, .int .i64 s] w fun e w' => e = .returned (.int .i64 ((t.all s).plays : Nat)) ∧ Below w.heap.size w w' := by
  have H : Hid ((t.flat && decide (t.num ≤ 10)) = true) := by show _ = _; rw [hf]; simp [hn]
  have HA := Lib.hid (all_spec t ht hl hf hn s hs)
  clear hf hn
  go_enter Try.func34, Try.ntmps34
  go_wp2_with fail
  refine (spec_l6Small t ht hl s hs _).mono ?_
  rintro e w1 ⟨rfl, hb1⟩
  rw [H.out]
  go_wp2_with fail
  refine (HA.out _ _ 1 (by rw [cell_of_row _ _ 0 _ _ _ (heap_alloc_new w1 _)]; rfl) (Nat.le_refl _)).mono ?_
  rintro e w2 ⟨rfl, hb2⟩
  rw [show (t.all s).cells = #[.int .i64 ((t.all s).plays : Nat), .int .i64 (t.all s).ends, .bool (t.all s).angel, .bool (t.all s).demon] from rfl]
  have hfd := field0_sum (.int .i64 ((t.all s).plays : Nat)) (.int .i64 (t.all s).ends) (.bool (t.all s).angel) (.bool (t.all s).demon) w2
  go_wp2_with fail
  go_ret
  exact ⟨rfl, below_step (below_new hb1 _) hb2⟩
theorem spec_OutcomesOf_no (c : ByteArray) (s : Int) (w : World) (hc : c.size ≤ 4611686018427387904) (h : (isCt c && stOk s) = false) : Calls Try.prog 32 #[.string c, .int .i64 s] w fun e w' => e = .returned (.tuple #[.int .i64 (-1), .bool false, .bool false]) ∧ w = w' := by
  go_enter Try.func32, Try.ntmps32
  go_wp2_with fail
  refine (spec_l6Small_no c s _ hc h).mono ?_
  rintro e w' ⟨rfl, rfl⟩
  go_wp2_with fail
  go_ret3
  exact ⟨rfl, rfl⟩
theorem spec_OutcomesOf_big (t : Ct) (ht : t.WF) (hl : t.len ≤ 200) (s : Nat) (hs : s < 4) (w : World) (h : (t.flat && decide (t.num ≤ 10)) = false) : Calls Try.prog 32 #[.string t.text, .int .i64 s] w fun e w' => e = .returned (.tuple #[.int .i64 (-1), .bool false, .bool false]) ∧ Below w.heap.size w w' := by
  have H := Lib.hid h
  clear h
  go_enter Try.func32, Try.ntmps32
  go_wp2_with fail
  refine (spec_l6Small t ht hl s hs _).mono ?_
  rintro e w1 ⟨rfl, hb1⟩
  rw [H.out]
  go_wp2_with fail
  go_ret3
  exact ⟨rfl, hb1⟩
theorem spec_OutcomesOf_yes (t : Ct) (ht : t.WF) (hl : t.len ≤ 200) (s : Nat) (hs : s < 4) (w : World) (hf : t.flat = true) (hn : t.num ≤ 10) : Calls Try.prog 32 #[.string t.text, .int .i64 s] w fun e w' => e = .returned (.tuple #[.int .i64 (t.all s).ends, .bool (t.all s).angel, .bool (t.all s).demon]) ∧ Below w.heap.size w w' := by
  have H : Hid ((t.flat && decide (t.num ≤ 10)) = true) := by show _ = _; rw [hf]; simp [hn]
  have HA := Lib.hid (all_spec t ht hl hf hn s hs)
  clear hf hn
  go_enter Try.func32, Try.ntmps32
  go_wp2_with fail
  refine (spec_l6Small t ht hl s hs _).mono ?_
  rintro e w1 ⟨rfl, hb1⟩
  rw [H.out]
  go_wp2_with fail
  refine (HA.out _ _ 1 (by rw [cell_of_row _ _ 0 _ _ _ (heap_alloc_new w1 _)]; rfl) (Nat.le_refl _)).mono ?_
  rintro e w2 ⟨rfl, hb2⟩
  rw [show (t.all s).cells = #[.int .i64 ((t.all s).plays : Nat), .int .i64 (t.all s).ends, .bool (t.all s).angel, .bool (t.all s).demon] from rfl]
  go_wp2_with fail
  go_region
  go_wp2_with fail
  go_ret3
  exact ⟨rfl, (below_new (below_step (below_new hb1 _) hb2) _).drew⟩
end Go.Proofs.Ytaeibhpkcikaaaa
