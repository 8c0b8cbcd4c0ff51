/- Contracts: the program's backward simulations and the greatest abstract transformer. -/
import Derived.Test.YtfeaeabhnkehcaaIm10
namespace Go.Proofs.Ytfeaeabhnkehcaa
set_option linter.unusedVariables false
set_option linter.unusedSimpArgs false
open Go.RowKit Go.Shelf
set_option maxRecDepth 100000
set_option maxHeartbeats 1000000

/-- the demon's way from abstract states to concrete ones -/
def wayT (r : Nat → Int) : Nat → Int := demonT (turn r)
theorem wayT_ok (r : Nat → Int) : Cond (wayT r) := demonT_ok _
def bwdT (r t u : Nat → Int) : Bool := refT (thenT t (wayT r)) (thenT (wayT r) u)

theorem impl_SimulatesBackward_no1 (r t u : ByteArray) (hr : r.size ≤ 4611686018427387904) (ht : t.size ≤ 4611686018427387904) (hu : u.size ≤ 4611686018427387904) (w : World) (H1 : Hid (okTxt 4 r = false)) :
    Calls Try.prog 20 #[.string r, .string t, .string u] w fun e w' => e = .returned (.bool false) ∧ Below w.heap.size w w' := by
  go_enter Try.func20, Try.ntmps20
  go_wp2_with fail
  refine (impl_readRel _ hr _).mono ?_
  rintro e w1 ⟨rfl, hb1⟩
  rw [H1.out]
  go_wp2_with (refine wp_store_New rfl 53 _ _ rfl rfl (f := tab 4 r) rfl rfl rel_i ?_)
  refine (impl_readTrans _ ht _).mono ?_
  rintro e w2 ⟨rfl, hb2⟩
  go_wp2_with (refine wp_store_New rfl 44 _ _ rfl rfl (f := tabT t) rfl rfl trans_i ?_)
  refine (impl_readTrans _ hu _).mono ?_
  rintro e w3 ⟨rfl, hb3⟩
  have R1 : Row (w3.alloc (.cells (cs 16 (tabT u)) 44)) w1.heap.size 53 4 (tab 4 r) := ((((Row.new w1 _ 4 _).grown hb2).old _).grown hb3).old _
  have hb := below_new (below_step (below_new (below_step (below_new hb1 (.cells (cs 4 (tab 4 r)) 53)) hb2) (.cells (cs 16 (tabT t)) 44)) hb3) (.cells (cs 16 (tabT u)) 44)
  go_wp2_with (first
    | (refine wp_store_New rfl 44 _ _ rfl rfl (f := tabT u) rfl rfl trans_i ?_)
    | (refine wp_load_Row rfl 53 _ rfl w1.heap.size rfl R1 rel_u rfl rel_i ?_))
  refine (impl_turned _ _).mono ?_
  rintro e w4 ⟨rfl, hb4⟩
  go_wp2_with fail
  refine (impl_demon _ _).mono ?_
  rintro e w5 ⟨rfl, hb5⟩
  go_wp2_with (refine wp_store_New rfl 44 _ _ rfl rfl (f := wayT (tab 4 r)) rfl rfl trans_i ?_)
  refine wp_region_held_drew (S := fun _ => True) (by kernel_rfl) ?_ (fun hS => ?_)
  · exact trivial
  refine wpAnyH_take (i := 0) (v := .bool false) rfl (by kernel_rfl) (by kernel_rfl) (by kernel_rfl) (fun _ _ _ h => h) (Or.inl ⟨by rfl, ?_⟩) hS ?_
  · intro w hSw
    go_simp
  simp only [Act.put, List.getElem_toArray, List.getElem_cons_succ, List.getElem_cons_zero, List.setIfInBounds_toArray, List.set_cons_zero, List.set_cons_succ]
  refine wpAnyH_take (i := 1) (v := .bool false) rfl (by kernel_rfl) (by kernel_rfl) (by kernel_rfl) (fun _ _ _ h => h) (Or.inl ⟨by rfl, ?_⟩) hS ?_
  · intro w hSw
    go_simp
  simp only [Act.put, List.getElem_toArray, List.getElem_cons_succ, List.getElem_cons_zero, List.setIfInBounds_toArray, List.set_cons_zero, List.set_cons_succ]
  refine wpAnyH_take (i := 2) (v := undef) rfl (by kernel_rfl) (by kernel_rfl) (by kernel_rfl) (fun _ _ _ h => h) (Or.inr ⟨by rfl, rfl⟩) hS ?_
  simp only [Act.put, List.getElem_toArray, List.getElem_cons_succ, List.getElem_cons_zero, List.setIfInBounds_toArray, List.set_cons_zero, List.set_cons_succ]
  refine wpAnyH_take (i := 3) (v := .bool false) rfl (by kernel_rfl) (by kernel_rfl) (by kernel_rfl) (fun _ _ _ h => h) (Or.inl ⟨by rfl, ?_⟩) hS ?_
  · intro w hSw
    go_simp
  simp only [Act.put, List.getElem_toArray, List.getElem_cons_succ, List.getElem_cons_zero, List.setIfInBounds_toArray, List.set_cons_zero, List.set_cons_succ]
  refine wpAnyH_take (i := 4) (v := .bool false) rfl (by kernel_rfl) (by kernel_rfl) (by kernel_rfl) (fun _ _ _ h => h) (Or.inl ⟨by rfl, ?_⟩) hS ?_
  · intro w hSw
    go_simp
  simp only [Act.put, List.getElem_toArray, List.getElem_cons_succ, List.getElem_cons_zero, List.setIfInBounds_toArray, List.set_cons_zero, List.set_cons_succ]
  refine wpAnyH_take (i := 5) (v := undef) rfl (by kernel_rfl) (by kernel_rfl) (by kernel_rfl) (fun _ _ _ h => h) (Or.inr ⟨by rfl, rfl⟩) hS ?_
  simp only [Act.put, List.getElem_toArray, List.getElem_cons_succ, List.getElem_cons_zero, List.setIfInBounds_toArray, List.set_cons_zero, List.set_cons_succ]
  refine wpAnyH_take (i := 6) (v := .bool false) rfl (by kernel_rfl) (by kernel_rfl) (by kernel_rfl) (fun _ _ _ h => h) (Or.inl ⟨by rfl, ?_⟩) hS ?_
  · intro w hSw
    go_simp
  simp only [Act.put, List.getElem_toArray, List.getElem_cons_succ, List.getElem_cons_zero, List.setIfInBounds_toArray, List.set_cons_zero, List.set_cons_succ]
  refine wpAnyH_take (i := 7) (v := .bool false) rfl (by kernel_rfl) (by kernel_rfl) (by kernel_rfl) (fun _ _ _ h => h) (Or.inl ⟨by rfl, ?_⟩) hS ?_
  · intro w hSw
    go_simp
  simp only [Act.put, List.getElem_toArray, List.getElem_cons_succ, List.getElem_cons_zero, List.setIfInBounds_toArray, List.set_cons_zero, List.set_cons_succ]
  refine wpAnyH_take (i := 8) (v := undef) rfl (by kernel_rfl) (by kernel_rfl) (by kernel_rfl) (fun _ _ _ h => h) (Or.inr ⟨by rfl, rfl⟩) hS ?_
  simp only [Act.put, List.getElem_toArray, List.getElem_cons_succ, List.getElem_cons_zero, List.setIfInBounds_toArray, List.set_cons_zero, List.set_cons_succ]
  refine wpAnyH_take (i := 9) (v := undef) rfl (by kernel_rfl) (by kernel_rfl) (by kernel_rfl) (fun _ _ _ h => h) (Or.inr ⟨by rfl, rfl⟩) hS ?_
  simp only [Act.put, List.getElem_toArray, List.getElem_cons_succ, List.getElem_cons_zero, List.setIfInBounds_toArray, List.set_cons_zero, List.set_cons_succ]
  refine wpAnyH_take (i := 10) (v := undef) rfl (by kernel_rfl) (by kernel_rfl) (by kernel_rfl) (fun _ _ _ h => h) (Or.inr ⟨by rfl, rfl⟩) hS ?_
  simp only [Act.put, List.getElem_toArray, List.getElem_cons_succ, List.getElem_cons_zero, List.setIfInBounds_toArray, List.set_cons_zero, List.set_cons_succ]
  refine wpAnyH_take (i := 11) (v := undef) rfl (by kernel_rfl) (by kernel_rfl) (by kernel_rfl) (fun _ _ _ h => h) (Or.inr ⟨by rfl, rfl⟩) hS ?_
  simp only [Act.put, List.getElem_toArray, List.getElem_cons_succ, List.getElem_cons_zero, List.setIfInBounds_toArray, List.set_cons_zero, List.set_cons_succ]
  refine wpAnyH_take (i := 12) (v := undef) rfl (by kernel_rfl) (by kernel_rfl) (by kernel_rfl) (fun _ _ _ h => h) (Or.inr ⟨by rfl, rfl⟩) hS ?_
  simp only [Act.put, List.getElem_toArray, List.getElem_cons_succ, List.getElem_cons_zero, List.setIfInBounds_toArray, List.set_cons_zero, List.set_cons_succ]
  refine wpAnyH_take (i := 13) (v := undef) rfl (by kernel_rfl) (by kernel_rfl) (by kernel_rfl) (fun _ _ _ h => h) (Or.inr ⟨by rfl, rfl⟩) hS ?_
  simp only [Act.put, List.getElem_toArray, List.getElem_cons_succ, List.getElem_cons_zero, List.setIfInBounds_toArray, List.set_cons_zero, List.set_cons_succ]
  refine wpAnyH_take (i := 14) (v := undef) rfl (by kernel_rfl) (by kernel_rfl) (by kernel_rfl) (fun _ _ _ h => h) (Or.inr ⟨by rfl, rfl⟩) hS ?_
  simp only [Act.put, List.getElem_toArray, List.getElem_cons_succ, List.getElem_cons_zero, List.setIfInBounds_toArray, List.set_cons_zero, List.set_cons_succ]
  refine wpAnyH_take (i := 15) (v := .bool false) rfl (by kernel_rfl) (by kernel_rfl) (by kernel_rfl) (fun _ _ _ h => h) (Or.inl ⟨by rfl, ?_⟩) hS ?_
  · intro w hSw
    go_simp
  simp only [Act.put, List.getElem_toArray, List.getElem_cons_succ, List.getElem_cons_zero, List.setIfInBounds_toArray, List.set_cons_zero, List.set_cons_succ]
  refine wpAnyH_take (i := 16) (v := .bool false) rfl (by kernel_rfl) (by kernel_rfl) (by kernel_rfl) (fun _ _ _ h => h) (Or.inl ⟨by rfl, ?_⟩) hS ?_
  · intro w hSw
    go_simp
  simp only [Act.put, List.getElem_toArray, List.getElem_cons_succ, List.getElem_cons_zero, List.setIfInBounds_toArray, List.set_cons_zero, List.set_cons_succ]
  refine wpAnyH_done (by kernel_rfl) ?_ _
  go_wp2_with fail
  go_ret
  exact ⟨rfl, (below_new (below_step (below_step hb hb4) hb5) _).drew⟩

theorem impl_SimulatesBackward_no2 (r t u : ByteArray) (hr : r.size ≤ 4611686018427387904) (ht : t.size ≤ 4611686018427387904) (hu : u.size ≤ 4611686018427387904) (w : World) (H1 : Hid (okTxt 4 r = true)) (H2 : Hid (okTr t = false)) :
    Calls Try.prog 20 #[.string r, .string t, .string u] w fun e w' => e = .returned (.bool false) ∧ Below w.heap.size w w' := by
  go_enter Try.func20, Try.ntmps20
  go_wp2_with fail
  refine (impl_readRel _ hr _).mono ?_
  rintro e w1 ⟨rfl, hb1⟩
  rw [H1.out]
  go_wp2_with (refine wp_store_New rfl 53 _ _ rfl rfl (f := tab 4 r) rfl rfl rel_i ?_)
  refine (impl_readTrans _ ht _).mono ?_
  rintro e w2 ⟨rfl, hb2⟩
  rw [H2.out]
  go_wp2_with (refine wp_store_New rfl 44 _ _ rfl rfl (f := tabT t) rfl rfl trans_i ?_)
  refine (impl_readTrans _ hu _).mono ?_
  rintro e w3 ⟨rfl, hb3⟩
  have R1 : Row (w3.alloc (.cells (cs 16 (tabT u)) 44)) w1.heap.size 53 4 (tab 4 r) := ((((Row.new w1 _ 4 _).grown hb2).old _).grown hb3).old _
  have hb := below_new (below_step (below_new (below_step (below_new hb1 (.cells (cs 4 (tab 4 r)) 53)) hb2) (.cells (cs 16 (tabT t)) 44)) hb3) (.cells (cs 16 (tabT u)) 44)
  go_wp2_with (first
    | (refine wp_store_New rfl 44 _ _ rfl rfl (f := tabT u) rfl rfl trans_i ?_)
    | (refine wp_load_Row rfl 53 _ rfl w1.heap.size rfl R1 rel_u rfl rel_i ?_))
  refine (impl_turned _ _).mono ?_
  rintro e w4 ⟨rfl, hb4⟩
  go_wp2_with fail
  refine (impl_demon _ _).mono ?_
  rintro e w5 ⟨rfl, hb5⟩
  go_wp2_with (refine wp_store_New rfl 44 _ _ rfl rfl (f := wayT (tab 4 r)) rfl rfl trans_i ?_)
  refine wp_region_held_drew (S := fun _ => True) (by kernel_rfl) ?_ (fun hS => ?_)
  · exact trivial
  refine wpAnyH_take (i := 0) (v := .bool true) rfl (by kernel_rfl) (by kernel_rfl) (by kernel_rfl) (fun _ _ _ h => h) (Or.inl ⟨by rfl, ?_⟩) hS ?_
  · intro w hSw
    go_simp
  simp only [Act.put, List.getElem_toArray, List.getElem_cons_succ, List.getElem_cons_zero, List.setIfInBounds_toArray, List.set_cons_zero, List.set_cons_succ]
  refine wpAnyH_take (i := 1) (v := .bool true) rfl (by kernel_rfl) (by kernel_rfl) (by kernel_rfl) (fun _ _ _ h => h) (Or.inl ⟨by rfl, ?_⟩) hS ?_
  · intro w hSw
    go_simp
  simp only [Act.put, List.getElem_toArray, List.getElem_cons_succ, List.getElem_cons_zero, List.setIfInBounds_toArray, List.set_cons_zero, List.set_cons_succ]
  refine wpAnyH_take (i := 2) (v := .bool false) rfl (by kernel_rfl) (by kernel_rfl) (by kernel_rfl) (fun _ _ _ h => h) (Or.inl ⟨by rfl, ?_⟩) hS ?_
  · intro w hSw
    go_simp
  simp only [Act.put, List.getElem_toArray, List.getElem_cons_succ, List.getElem_cons_zero, List.setIfInBounds_toArray, List.set_cons_zero, List.set_cons_succ]
  refine wpAnyH_take (i := 3) (v := .bool false) rfl (by kernel_rfl) (by kernel_rfl) (by kernel_rfl) (fun _ _ _ h => h) (Or.inl ⟨by rfl, ?_⟩) hS ?_
  · intro w hSw
    go_simp
  simp only [Act.put, List.getElem_toArray, List.getElem_cons_succ, List.getElem_cons_zero, List.setIfInBounds_toArray, List.set_cons_zero, List.set_cons_succ]
  refine wpAnyH_take (i := 4) (v := .bool false) rfl (by kernel_rfl) (by kernel_rfl) (by kernel_rfl) (fun _ _ _ h => h) (Or.inl ⟨by rfl, ?_⟩) hS ?_
  · intro w hSw
    go_simp
  simp only [Act.put, List.getElem_toArray, List.getElem_cons_succ, List.getElem_cons_zero, List.setIfInBounds_toArray, List.set_cons_zero, List.set_cons_succ]
  refine wpAnyH_take (i := 5) (v := undef) rfl (by kernel_rfl) (by kernel_rfl) (by kernel_rfl) (fun _ _ _ h => h) (Or.inr ⟨by rfl, rfl⟩) hS ?_
  simp only [Act.put, List.getElem_toArray, List.getElem_cons_succ, List.getElem_cons_zero, List.setIfInBounds_toArray, List.set_cons_zero, List.set_cons_succ]
  refine wpAnyH_take (i := 6) (v := .bool false) rfl (by kernel_rfl) (by kernel_rfl) (by kernel_rfl) (fun _ _ _ h => h) (Or.inl ⟨by rfl, ?_⟩) hS ?_
  · intro w hSw
    go_simp
  simp only [Act.put, List.getElem_toArray, List.getElem_cons_succ, List.getElem_cons_zero, List.setIfInBounds_toArray, List.set_cons_zero, List.set_cons_succ]
  refine wpAnyH_take (i := 7) (v := .bool false) rfl (by kernel_rfl) (by kernel_rfl) (by kernel_rfl) (fun _ _ _ h => h) (Or.inl ⟨by rfl, ?_⟩) hS ?_
  · intro w hSw
    go_simp
  simp only [Act.put, List.getElem_toArray, List.getElem_cons_succ, List.getElem_cons_zero, List.setIfInBounds_toArray, List.set_cons_zero, List.set_cons_succ]
  refine wpAnyH_take (i := 8) (v := undef) rfl (by kernel_rfl) (by kernel_rfl) (by kernel_rfl) (fun _ _ _ h => h) (Or.inr ⟨by rfl, rfl⟩) hS ?_
  simp only [Act.put, List.getElem_toArray, List.getElem_cons_succ, List.getElem_cons_zero, List.setIfInBounds_toArray, List.set_cons_zero, List.set_cons_succ]
  refine wpAnyH_take (i := 9) (v := undef) rfl (by kernel_rfl) (by kernel_rfl) (by kernel_rfl) (fun _ _ _ h => h) (Or.inr ⟨by rfl, rfl⟩) hS ?_
  simp only [Act.put, List.getElem_toArray, List.getElem_cons_succ, List.getElem_cons_zero, List.setIfInBounds_toArray, List.set_cons_zero, List.set_cons_succ]
  refine wpAnyH_take (i := 10) (v := undef) rfl (by kernel_rfl) (by kernel_rfl) (by kernel_rfl) (fun _ _ _ h => h) (Or.inr ⟨by rfl, rfl⟩) hS ?_
  simp only [Act.put, List.getElem_toArray, List.getElem_cons_succ, List.getElem_cons_zero, List.setIfInBounds_toArray, List.set_cons_zero, List.set_cons_succ]
  refine wpAnyH_take (i := 11) (v := undef) rfl (by kernel_rfl) (by kernel_rfl) (by kernel_rfl) (fun _ _ _ h => h) (Or.inr ⟨by rfl, rfl⟩) hS ?_
  simp only [Act.put, List.getElem_toArray, List.getElem_cons_succ, List.getElem_cons_zero, List.setIfInBounds_toArray, List.set_cons_zero, List.set_cons_succ]
  refine wpAnyH_take (i := 12) (v := undef) rfl (by kernel_rfl) (by kernel_rfl) (by kernel_rfl) (fun _ _ _ h => h) (Or.inr ⟨by rfl, rfl⟩) hS ?_
  simp only [Act.put, List.getElem_toArray, List.getElem_cons_succ, List.getElem_cons_zero, List.setIfInBounds_toArray, List.set_cons_zero, List.set_cons_succ]
  refine wpAnyH_take (i := 13) (v := undef) rfl (by kernel_rfl) (by kernel_rfl) (by kernel_rfl) (fun _ _ _ h => h) (Or.inr ⟨by rfl, rfl⟩) hS ?_
  simp only [Act.put, List.getElem_toArray, List.getElem_cons_succ, List.getElem_cons_zero, List.setIfInBounds_toArray, List.set_cons_zero, List.set_cons_succ]
  refine wpAnyH_take (i := 14) (v := undef) rfl (by kernel_rfl) (by kernel_rfl) (by kernel_rfl) (fun _ _ _ h => h) (Or.inr ⟨by rfl, rfl⟩) hS ?_
  simp only [Act.put, List.getElem_toArray, List.getElem_cons_succ, List.getElem_cons_zero, List.setIfInBounds_toArray, List.set_cons_zero, List.set_cons_succ]
  refine wpAnyH_take (i := 15) (v := .bool false) rfl (by kernel_rfl) (by kernel_rfl) (by kernel_rfl) (fun _ _ _ h => h) (Or.inl ⟨by rfl, ?_⟩) hS ?_
  · intro w hSw
    go_simp
  simp only [Act.put, List.getElem_toArray, List.getElem_cons_succ, List.getElem_cons_zero, List.setIfInBounds_toArray, List.set_cons_zero, List.set_cons_succ]
  refine wpAnyH_take (i := 16) (v := .bool false) rfl (by kernel_rfl) (by kernel_rfl) (by kernel_rfl) (fun _ _ _ h => h) (Or.inl ⟨by rfl, ?_⟩) hS ?_
  · intro w hSw
    go_simp
  simp only [Act.put, List.getElem_toArray, List.getElem_cons_succ, List.getElem_cons_zero, List.setIfInBounds_toArray, List.set_cons_zero, List.set_cons_succ]
  refine wpAnyH_done (by kernel_rfl) ?_ _
  go_wp2_with fail
  go_ret
  exact ⟨rfl, (below_new (below_step (below_step hb hb4) hb5) _).drew⟩

theorem impl_SimulatesBackward_no3 (r t u : ByteArray) (hr : r.size ≤ 4611686018427387904) (ht : t.size ≤ 4611686018427387904) (hu : u.size ≤ 4611686018427387904) (w : World) (H1 : Hid (okTxt 4 r = true)) (H2 : Hid (okTr t = true)) (H3 : Hid (okTr u = false)) :
    Calls Try.prog 20 #[.string r, .string t, .string u] w fun e w' => e = .returned (.bool false) ∧ Below w.heap.size w w' := by
  go_enter Try.func20, Try.ntmps20
  go_wp2_with fail
  refine (impl_readRel _ hr _).mono ?_
  rintro e w1 ⟨rfl, hb1⟩
  rw [H1.out]
  go_wp2_with (refine wp_store_New rfl 53 _ _ rfl rfl (f := tab 4 r) rfl rfl rel_i ?_)
  refine (impl_readTrans _ ht _).mono ?_
  rintro e w2 ⟨rfl, hb2⟩
  rw [H2.out]
  go_wp2_with (refine wp_store_New rfl 44 _ _ rfl rfl (f := tabT t) rfl rfl trans_i ?_)
  refine (impl_readTrans _ hu _).mono ?_
  rintro e w3 ⟨rfl, hb3⟩
  rw [H3.out]
  have R1 : Row (w3.alloc (.cells (cs 16 (tabT u)) 44)) w1.heap.size 53 4 (tab 4 r) := ((((Row.new w1 _ 4 _).grown hb2).old _).grown hb3).old _
  have hb := below_new (below_step (below_new (below_step (below_new hb1 (.cells (cs 4 (tab 4 r)) 53)) hb2) (.cells (cs 16 (tabT t)) 44)) hb3) (.cells (cs 16 (tabT u)) 44)
  go_wp2_with (first
    | (refine wp_store_New rfl 44 _ _ rfl rfl (f := tabT u) rfl rfl trans_i ?_)
    | (refine wp_load_Row rfl 53 _ rfl w1.heap.size rfl R1 rel_u rfl rel_i ?_))
  refine (impl_turned _ _).mono ?_
  rintro e w4 ⟨rfl, hb4⟩
  go_wp2_with fail
  refine (impl_demon _ _).mono ?_
  rintro e w5 ⟨rfl, hb5⟩
  go_wp2_with (refine wp_store_New rfl 44 _ _ rfl rfl (f := wayT (tab 4 r)) rfl rfl trans_i ?_)
  refine wp_region_held_drew (S := fun _ => True) (by kernel_rfl) ?_ (fun hS => ?_)
  · exact trivial
  refine wpAnyH_take (i := 0) (v := .bool true) rfl (by kernel_rfl) (by kernel_rfl) (by kernel_rfl) (fun _ _ _ h => h) (Or.inl ⟨by rfl, ?_⟩) hS ?_
  · intro w hSw
    go_simp
  simp only [Act.put, List.getElem_toArray, List.getElem_cons_succ, List.getElem_cons_zero, List.setIfInBounds_toArray, List.set_cons_zero, List.set_cons_succ]
  refine wpAnyH_take (i := 1) (v := .bool true) rfl (by kernel_rfl) (by kernel_rfl) (by kernel_rfl) (fun _ _ _ h => h) (Or.inl ⟨by rfl, ?_⟩) hS ?_
  · intro w hSw
    go_simp
  simp only [Act.put, List.getElem_toArray, List.getElem_cons_succ, List.getElem_cons_zero, List.setIfInBounds_toArray, List.set_cons_zero, List.set_cons_succ]
  refine wpAnyH_take (i := 2) (v := .bool true) rfl (by kernel_rfl) (by kernel_rfl) (by kernel_rfl) (fun _ _ _ h => h) (Or.inl ⟨by rfl, ?_⟩) hS ?_
  · intro w hSw
    go_simp
  simp only [Act.put, List.getElem_toArray, List.getElem_cons_succ, List.getElem_cons_zero, List.setIfInBounds_toArray, List.set_cons_zero, List.set_cons_succ]
  refine wpAnyH_take (i := 3) (v := .bool true) rfl (by kernel_rfl) (by kernel_rfl) (by kernel_rfl) (fun _ _ _ h => h) (Or.inl ⟨by rfl, ?_⟩) hS ?_
  · intro w hSw
    go_simp
  simp only [Act.put, List.getElem_toArray, List.getElem_cons_succ, List.getElem_cons_zero, List.setIfInBounds_toArray, List.set_cons_zero, List.set_cons_succ]
  refine wpAnyH_take (i := 4) (v := .bool true) rfl (by kernel_rfl) (by kernel_rfl) (by kernel_rfl) (fun _ _ _ h => h) (Or.inl ⟨by rfl, ?_⟩) hS ?_
  · intro w hSw
    go_simp
  simp only [Act.put, List.getElem_toArray, List.getElem_cons_succ, List.getElem_cons_zero, List.setIfInBounds_toArray, List.set_cons_zero, List.set_cons_succ]
  refine wpAnyH_take (i := 5) (v := .bool false) rfl (by kernel_rfl) (by kernel_rfl) (by kernel_rfl) (fun _ _ _ h => h) (Or.inl ⟨by rfl, ?_⟩) hS ?_
  · intro w hSw
    go_simp
  simp only [Act.put, List.getElem_toArray, List.getElem_cons_succ, List.getElem_cons_zero, List.setIfInBounds_toArray, List.set_cons_zero, List.set_cons_succ]
  refine wpAnyH_take (i := 6) (v := .bool false) rfl (by kernel_rfl) (by kernel_rfl) (by kernel_rfl) (fun _ _ _ h => h) (Or.inl ⟨by rfl, ?_⟩) hS ?_
  · intro w hSw
    go_simp
  simp only [Act.put, List.getElem_toArray, List.getElem_cons_succ, List.getElem_cons_zero, List.setIfInBounds_toArray, List.set_cons_zero, List.set_cons_succ]
  refine wpAnyH_take (i := 7) (v := .bool false) rfl (by kernel_rfl) (by kernel_rfl) (by kernel_rfl) (fun _ _ _ h => h) (Or.inl ⟨by rfl, ?_⟩) hS ?_
  · intro w hSw
    go_simp
  simp only [Act.put, List.getElem_toArray, List.getElem_cons_succ, List.getElem_cons_zero, List.setIfInBounds_toArray, List.set_cons_zero, List.set_cons_succ]
  refine wpAnyH_take (i := 8) (v := undef) rfl (by kernel_rfl) (by kernel_rfl) (by kernel_rfl) (fun _ _ _ h => h) (Or.inr ⟨by rfl, rfl⟩) hS ?_
  simp only [Act.put, List.getElem_toArray, List.getElem_cons_succ, List.getElem_cons_zero, List.setIfInBounds_toArray, List.set_cons_zero, List.set_cons_succ]
  refine wpAnyH_take (i := 9) (v := undef) rfl (by kernel_rfl) (by kernel_rfl) (by kernel_rfl) (fun _ _ _ h => h) (Or.inr ⟨by rfl, rfl⟩) hS ?_
  simp only [Act.put, List.getElem_toArray, List.getElem_cons_succ, List.getElem_cons_zero, List.setIfInBounds_toArray, List.set_cons_zero, List.set_cons_succ]
  refine wpAnyH_take (i := 10) (v := undef) rfl (by kernel_rfl) (by kernel_rfl) (by kernel_rfl) (fun _ _ _ h => h) (Or.inr ⟨by rfl, rfl⟩) hS ?_
  simp only [Act.put, List.getElem_toArray, List.getElem_cons_succ, List.getElem_cons_zero, List.setIfInBounds_toArray, List.set_cons_zero, List.set_cons_succ]
  refine wpAnyH_take (i := 11) (v := undef) rfl (by kernel_rfl) (by kernel_rfl) (by kernel_rfl) (fun _ _ _ h => h) (Or.inr ⟨by rfl, rfl⟩) hS ?_
  simp only [Act.put, List.getElem_toArray, List.getElem_cons_succ, List.getElem_cons_zero, List.setIfInBounds_toArray, List.set_cons_zero, List.set_cons_succ]
  refine wpAnyH_take (i := 12) (v := undef) rfl (by kernel_rfl) (by kernel_rfl) (by kernel_rfl) (fun _ _ _ h => h) (Or.inr ⟨by rfl, rfl⟩) hS ?_
  simp only [Act.put, List.getElem_toArray, List.getElem_cons_succ, List.getElem_cons_zero, List.setIfInBounds_toArray, List.set_cons_zero, List.set_cons_succ]
  refine wpAnyH_take (i := 13) (v := undef) rfl (by kernel_rfl) (by kernel_rfl) (by kernel_rfl) (fun _ _ _ h => h) (Or.inr ⟨by rfl, rfl⟩) hS ?_
  simp only [Act.put, List.getElem_toArray, List.getElem_cons_succ, List.getElem_cons_zero, List.setIfInBounds_toArray, List.set_cons_zero, List.set_cons_succ]
  refine wpAnyH_take (i := 14) (v := undef) rfl (by kernel_rfl) (by kernel_rfl) (by kernel_rfl) (fun _ _ _ h => h) (Or.inr ⟨by rfl, rfl⟩) hS ?_
  simp only [Act.put, List.getElem_toArray, List.getElem_cons_succ, List.getElem_cons_zero, List.setIfInBounds_toArray, List.set_cons_zero, List.set_cons_succ]
  refine wpAnyH_take (i := 15) (v := .bool false) rfl (by kernel_rfl) (by kernel_rfl) (by kernel_rfl) (fun _ _ _ h => h) (Or.inl ⟨by rfl, ?_⟩) hS ?_
  · intro w hSw
    go_simp
  simp only [Act.put, List.getElem_toArray, List.getElem_cons_succ, List.getElem_cons_zero, List.setIfInBounds_toArray, List.set_cons_zero, List.set_cons_succ]
  refine wpAnyH_take (i := 16) (v := .bool false) rfl (by kernel_rfl) (by kernel_rfl) (by kernel_rfl) (fun _ _ _ h => h) (Or.inl ⟨by rfl, ?_⟩) hS ?_
  · intro w hSw
    go_simp
  simp only [Act.put, List.getElem_toArray, List.getElem_cons_succ, List.getElem_cons_zero, List.setIfInBounds_toArray, List.set_cons_zero, List.set_cons_succ]
  refine wpAnyH_done (by kernel_rfl) ?_ _
  go_wp2_with fail
  go_ret
  exact ⟨rfl, (below_new (below_step (below_step hb hb4) hb5) _).drew⟩

theorem impl_SimulatesBackward_yes (r t u : ByteArray) (hr : r.size ≤ 4611686018427387904) (ht : t.size ≤ 4611686018427387904) (hu : u.size ≤ 4611686018427387904) (w : World) (h1 : okTxt 4 r = true) (h2 : okTr t = true) (h3 : okTr u = true) :
    Calls Try.prog 20 #[.string r, .string t, .string u] w fun e w' => e = .returned (.bool (bwdT (val r) (val t) (val u))) ∧ Below w.heap.size w w' := by
  have H1 := Lib.hid h1; clear h1
  have H2 := Lib.hid h2; clear h2
  have H3 := Lib.hid h3; clear h3
  go_enter Try.func20, Try.ntmps20
  go_wp2_with fail
  refine (impl_readRel _ hr _).mono ?_
  rintro e w1 ⟨rfl, hb1⟩
  rw [H1.out, tab_val H1.out]
  go_wp2_with (refine wp_store_New rfl 53 _ _ rfl rfl (f := val r) rfl rfl rel_i ?_)
  refine (impl_readTrans _ ht _).mono ?_
  rintro e w2 ⟨rfl, hb2⟩
  rw [H2.out, tabT_val H2.out]
  go_wp2_with (refine wp_store_New rfl 44 _ _ rfl rfl (f := val t) rfl rfl trans_i ?_)
  refine (impl_readTrans _ hu _).mono ?_
  rintro e w3 ⟨rfl, hb3⟩
  rw [H3.out, tabT_val H3.out]
  have R1 : Row (w3.alloc (.cells (cs 16 (val u)) 44)) w1.heap.size 53 4 (val r) := ((((Row.new w1 _ 4 _).grown hb2).old _).grown hb3).old _
  have hb := below_new (below_step (below_new (below_step (below_new hb1 (.cells (cs 4 (val r)) 53)) hb2) (.cells (cs 16 (val t)) 44)) hb3) (.cells (cs 16 (val u)) 44)
  go_wp2_with (first
    | (refine wp_store_New rfl 44 _ _ rfl rfl (f := val u) rfl rfl trans_i ?_)
    | (refine wp_load_Row rfl 53 _ rfl w1.heap.size rfl R1 rel_u rfl rel_i ?_))
  refine (impl_turned _ _).mono ?_
  rintro e w4 ⟨rfl, hb4⟩
  go_wp2_with fail
  refine (impl_demon _ _).mono ?_
  rintro e w5 ⟨rfl, hb5⟩
  go_wp2_with (refine wp_store_New rfl 44 _ _ rfl rfl (f := wayT (val r)) rfl rfl trans_i ?_)
  have HT : Row (w5.alloc (.cells (cs 16 (wayT (val r))) 44)) w2.heap.size 44 16 (val t) := (((((Row.new w2 _ 16 _).grown hb3).old _).grown hb4).grown hb5).old _
  have HU : Row (w5.alloc (.cells (cs 16 (wayT (val r))) 44)) w3.heap.size 44 16 (val u) := (((Row.new w3 _ 16 _).grown hb4).grown hb5).old _
  have HD : Row (w5.alloc (.cells (cs 16 (wayT (val r))) 44)) w5.heap.size 44 16 (wayT (val r)) := Row.new w5 _ 16 _
  have hb' := below_new (below_step (below_step hb hb4) hb5) (.cells (cs 16 (wayT (val r))) 44)
  generalize w5.alloc (.cells (cs 16 (wayT (val r))) 44) = W at HT HU HD hb'
  refine wp_region_held_drew (S := fun W => Row W w2.heap.size 44 16 (val t) ∧ Row W w3.heap.size 44 16 (val u) ∧ Row W w5.heap.size 44 16 (wayT (val r))) (by kernel_rfl) ?_ (fun hS => ?_)
  · exact ⟨HT.drew, HU.drew, HD.drew⟩
  refine wpAnyH_take (i := 0) (v := .bool true) rfl (by kernel_rfl) (by kernel_rfl) (by kernel_rfl) (fun _ _ _ h => h) (Or.inl ⟨by rfl, ?_⟩) hS ?_
  · intro w hSw
    go_simp
  simp only [Act.put, List.getElem_toArray, List.getElem_cons_succ, List.getElem_cons_zero, List.setIfInBounds_toArray, List.set_cons_zero, List.set_cons_succ]
  refine wpAnyH_take (i := 1) (v := .bool true) rfl (by kernel_rfl) (by kernel_rfl) (by kernel_rfl) (fun _ _ _ h => h) (Or.inl ⟨by rfl, ?_⟩) hS ?_
  · intro w hSw
    go_simp
  simp only [Act.put, List.getElem_toArray, List.getElem_cons_succ, List.getElem_cons_zero, List.setIfInBounds_toArray, List.set_cons_zero, List.set_cons_succ]
  refine wpAnyH_take (i := 2) (v := .bool true) rfl (by kernel_rfl) (by kernel_rfl) (by kernel_rfl) (fun _ _ _ h => h) (Or.inl ⟨by rfl, ?_⟩) hS ?_
  · intro w hSw
    go_simp
  simp only [Act.put, List.getElem_toArray, List.getElem_cons_succ, List.getElem_cons_zero, List.setIfInBounds_toArray, List.set_cons_zero, List.set_cons_succ]
  refine wpAnyH_take (i := 3) (v := .bool true) rfl (by kernel_rfl) (by kernel_rfl) (by kernel_rfl) (fun _ _ _ h => h) (Or.inl ⟨by rfl, ?_⟩) hS ?_
  · intro w hSw
    go_simp
  simp only [Act.put, List.getElem_toArray, List.getElem_cons_succ, List.getElem_cons_zero, List.setIfInBounds_toArray, List.set_cons_zero, List.set_cons_succ]
  refine wpAnyH_take (i := 4) (v := .bool true) rfl (by kernel_rfl) (by kernel_rfl) (by kernel_rfl) (fun _ _ _ h => h) (Or.inl ⟨by rfl, ?_⟩) hS ?_
  · intro w hSw
    go_simp
  simp only [Act.put, List.getElem_toArray, List.getElem_cons_succ, List.getElem_cons_zero, List.setIfInBounds_toArray, List.set_cons_zero, List.set_cons_succ]
  refine wpAnyH_take (i := 5) (v := .bool true) rfl (by kernel_rfl) (by kernel_rfl) (by kernel_rfl) (fun _ _ _ h => h) (Or.inl ⟨by rfl, ?_⟩) hS ?_
  · intro w hSw
    go_simp
  simp only [Act.put, List.getElem_toArray, List.getElem_cons_succ, List.getElem_cons_zero, List.setIfInBounds_toArray, List.set_cons_zero, List.set_cons_succ]
  refine wpAnyH_take (i := 6) (v := .bool true) rfl (by kernel_rfl) (by kernel_rfl) (by kernel_rfl) (fun _ _ _ h => h) (Or.inl ⟨by rfl, ?_⟩) hS ?_
  · intro w hSw
    go_simp
  simp only [Act.put, List.getElem_toArray, List.getElem_cons_succ, List.getElem_cons_zero, List.setIfInBounds_toArray, List.set_cons_zero, List.set_cons_succ]
  refine wpAnyH_take (i := 7) (v := .bool true) rfl (by kernel_rfl) (by kernel_rfl) (by kernel_rfl) (fun _ _ _ h => h) (Or.inl ⟨by rfl, ?_⟩) hS ?_
  · intro w hSw
    go_simp
  simp only [Act.put, List.getElem_toArray, List.getElem_cons_succ, List.getElem_cons_zero, List.setIfInBounds_toArray, List.set_cons_zero, List.set_cons_succ]
  refine wpAnyH_take (i := 8) (v := .agg (cs 16 (val t))) rfl (by kernel_rfl) (by kernel_rfl) (by kernel_rfl) (fun _ _ _ h => h) (yields_Row (by rfl) _ _ rfl (w2.heap.size) rfl (fun _ h => h.1) trans_u rfl trans_i) hS ?_
  simp only [Act.put, List.getElem_toArray, List.getElem_cons_succ, List.getElem_cons_zero, List.setIfInBounds_toArray, List.set_cons_zero, List.set_cons_succ]
  refine wpAnyH_take (i := 9) (v := .agg (cs 16 (wayT (val r)))) rfl (by kernel_rfl) (by kernel_rfl) (by kernel_rfl) (fun _ _ _ h => h) (yields_Row (by rfl) _ _ rfl (w5.heap.size) rfl (fun _ h => h.2.2) trans_u rfl trans_i) hS ?_
  simp only [Act.put, List.getElem_toArray, List.getElem_cons_succ, List.getElem_cons_zero, List.setIfInBounds_toArray, List.set_cons_zero, List.set_cons_succ]
  refine wpAnyH_take (i := 11) (v := .agg (cs 16 (wayT (val r)))) rfl (by kernel_rfl) (by kernel_rfl) (by kernel_rfl) (fun _ _ _ h => h) (yields_Row (by rfl) _ _ rfl (w5.heap.size) rfl (fun _ h => h.2.2) trans_u rfl trans_i) hS ?_
  simp only [Act.put, List.getElem_toArray, List.getElem_cons_succ, List.getElem_cons_zero, List.setIfInBounds_toArray, List.set_cons_zero, List.set_cons_succ]
  refine wpAnyH_take (i := 12) (v := .agg (cs 16 (val u))) rfl (by kernel_rfl) (by kernel_rfl) (by kernel_rfl) (fun _ _ _ h => h) (yields_Row (by rfl) _ _ rfl (w3.heap.size) rfl (fun _ h => h.2.1) trans_u rfl trans_i) hS ?_
  simp only [Act.put, List.getElem_toArray, List.getElem_cons_succ, List.getElem_cons_zero, List.setIfInBounds_toArray, List.set_cons_zero, List.set_cons_succ]
  refine wpAnyH_ready (rs := [10]) (by kernel_rfl) (by simp) ?_
  refine AllReadyH.cons rfl (fun K hK => ?_) AllReadyH.nil
  rw [if_pos (by rfl)]
  refine op_call 65 _ _ rfl (enters_of Try.func65 (by kernel_rfl) rfl) _ (impl_then _ _ (wayT_ok _) _) rfl ?_
  rintro e w6 ⟨rfl, hb6⟩
  refine ⟨_, rfl, ?_⟩
  refine hK.out _ _ ?_ (fun hS1 => ?_)
  · exact ⟨hS.1.grown hb6, hS.2.1.grown hb6, hS.2.2.grown hb6⟩
  clear hK K
  replace hS := hS1
  clear hS1
  simp only [Act.put, List.getElem_toArray, List.getElem_cons_succ, List.getElem_cons_zero, List.setIfInBounds_toArray, List.set_cons_zero, List.set_cons_succ]
  refine wpAnyH_ready (rs := [13]) (by kernel_rfl) (by simp) ?_
  refine AllReadyH.cons rfl (fun K hK => ?_) AllReadyH.nil
  rw [if_pos (by rfl)]
  refine op_call 65 _ _ rfl (enters_of Try.func65 (by kernel_rfl) rfl) _ (impl_then _ _ (val_ok u) _) rfl ?_
  rintro e w7 ⟨rfl, hb7⟩
  refine ⟨_, rfl, ?_⟩
  refine hK.out _ _ ?_ (fun hS1 => ?_)
  · exact ⟨hS.1.grown hb7, hS.2.1.grown hb7, hS.2.2.grown hb7⟩
  clear hK K
  replace hS := hS1
  clear hS1
  simp only [Act.put, List.getElem_toArray, List.getElem_cons_succ, List.getElem_cons_zero, List.setIfInBounds_toArray, List.set_cons_zero, List.set_cons_succ]
  refine wpAnyH_ready (rs := [14]) (by kernel_rfl) (by simp) ?_
  refine AllReadyH.cons rfl (fun K hK => ?_) AllReadyH.nil
  rw [if_pos (by rfl)]
  refine op_call 63 _ _ rfl (enters_of Try.func63 (by kernel_rfl) rfl) _ (impl_refined _ _ _) rfl ?_
  rintro e w8 ⟨rfl, hb8⟩
  refine ⟨_, rfl, ?_⟩
  refine hK.out _ _ ?_ (fun hS1 => ?_)
  · exact ⟨hS.1.grown hb8, hS.2.1.grown hb8, hS.2.2.grown hb8⟩
  clear hK K
  replace hS := hS1
  clear hS1
  simp only [Act.put, List.getElem_toArray, List.getElem_cons_succ, List.getElem_cons_zero, List.setIfInBounds_toArray, List.set_cons_zero, List.set_cons_succ]
  refine wpAnyH_take (i := 15) (v := .bool (refT (thenT (val t) (wayT (val r))) (thenT (wayT (val r)) (val u)))) rfl (by kernel_rfl) (by kernel_rfl) (by kernel_rfl) (fun _ _ _ h => h) (Or.inl ⟨by rfl, ?_⟩) hS ?_
  · intro w hSw
    go_simp
  simp only [Act.put, List.getElem_toArray, List.getElem_cons_succ, List.getElem_cons_zero, List.setIfInBounds_toArray, List.set_cons_zero, List.set_cons_succ]
  refine wpAnyH_take (i := 16) (v := .bool (refT (thenT (val t) (wayT (val r))) (thenT (wayT (val r)) (val u)))) rfl (by kernel_rfl) (by kernel_rfl) (by kernel_rfl) (fun _ _ _ h => h) (Or.inl ⟨by rfl, ?_⟩) hS ?_
  · intro w hSw
    go_simp
  simp only [Act.put, List.getElem_toArray, List.getElem_cons_succ, List.getElem_cons_zero, List.setIfInBounds_toArray, List.set_cons_zero, List.set_cons_succ]
  refine wpAnyH_done (by kernel_rfl) ?_ _
  go_wp2_with fail
  go_ret
  exact ⟨rfl, below_step (below_step (below_step hb'.drew hb6) hb7) hb8⟩

theorem impl_SimulatesBackward (r t u : ByteArray) (hr : r.size ≤ 4611686018427387904) (ht : t.size ≤ 4611686018427387904) (hu : u.size ≤ 4611686018427387904) (w : World) :
    Calls Try.prog 20 #[.string r, .string t, .string u] w fun e w' => e = .returned (.bool (okTxt 4 r && (okTr t && okTr u) && bwdT (val r) (val t) (val u))) ∧ Below w.heap.size w w' := by
  cases h : okTxt 4 r && (okTr t && okTr u)
  · rw [Bool.false_and]
    cases h1 : okTxt 4 r
    · exact impl_SimulatesBackward_no1 r t u hr ht hu w h1
    · cases h2 : okTr t
      · exact impl_SimulatesBackward_no2 r t u hr ht hu w h1 h2
      · rw [h1, h2, Bool.true_and, Bool.true_and] at h
        exact impl_SimulatesBackward_no3 r t u hr ht hu w h1 h2 h
  · have hh : okTxt 4 r = true ∧ okTr t = true ∧ okTr u = true := by simpa using h
    rw [Bool.true_and]
    exact impl_SimulatesBackward_yes r t u hr ht hu w hh.1 hh.2.1 hh.2.2

/-- the greatest abstract one that is simulated -/
def absT (r u : Nat → Int) : Nat → Int := mostT (wayT r) (thenT (wayT r) u)
theorem absT_ok (r u : Nat → Int) : Cond (absT r u) := mostT_ok (thenT_ok (wayT_ok r) u)

theorem impl_AbstractMost1 (r t : Nat → Int) (ht : Cond t) (w : World) :
    Calls Try.prog 73 #[.agg (cs 4 r), .agg (cs 16 t)] w fun e w' => e = .returned (.agg (cs 16 (absT r t))) ∧ Below w.heap.size w w' := by
  have R1 : ∀ o1 o2, Row (((w.alloc (.cells (cs 4 r) 53)).alloc o1).alloc o2) w.heap.size 53 4 r := fun o1 o2 => ((Row.new w _ 4 r).old _).old _
  go_enter Try.func73, Try.ntmps73
  go_wp2_with (refine wp_load_Row rfl 53 _ rfl w.heap.size rfl (R1 _ _) rel_u rfl rel_i ?_)
  rw [← cs16_zero]
  have HT0 : Row (((w.alloc (.cells (cs 4 r) 53)).alloc (.cells (cs 16 t) 44)).alloc (.cells (cs 16 fun _ => 0) 44)) (w.heap.size + 1) 44 16 t := (Row.newAt (w.alloc _) _ 16 t _ (by simp)).old _
  have HZ0 : Row (((w.alloc (.cells (cs 4 r) 53)).alloc (.cells (cs 16 t) 44)).alloc (.cells (cs 16 fun _ => 0) 44)) (w.heap.size + 1 + 1) 44 16 (fun _ => 0) := Row.newAt ((w.alloc _).alloc _) _ 16 _ _ (by simp)
  have hb0 := below_new (below_new (below_new (Below.refl w.heap.size w) (.cells (cs 4 r) 53)) (.cells (cs 16 t) 44)) (.cells (cs 16 fun _ => 0) 44)
  generalize ((w.alloc (.cells (cs 4 r) 53)).alloc (.cells (cs 16 t) 44)).alloc (.cells (cs 16 fun _ => 0) 44) = W0 at HT0 HZ0 hb0
  refine (impl_turned _ _).mono ?_
  rintro e w1 ⟨rfl, hb1⟩
  go_wp2_with fail
  refine (impl_demon _ _).mono ?_
  rintro e w2 ⟨rfl, hb2⟩
  go_wp2_with (refine wp_store_New rfl 44 _ _ rfl rfl (f := wayT r) rfl rfl trans_i ?_)
  have HT : Row (w2.alloc (.cells (cs 16 (wayT r)) 44)) (w.heap.size + 1) 44 16 t := ((HT0.grown hb1).grown hb2).old _
  have HZ : Row (w2.alloc (.cells (cs 16 (wayT r)) 44)) (w.heap.size + 1 + 1) 44 16 (fun _ => 0) := ((HZ0.grown hb1).grown hb2).old _
  have HD : Row (w2.alloc (.cells (cs 16 (wayT r)) 44)) w2.heap.size 44 16 (wayT r) := Row.new w2 _ 16 _
  have hb := below_new (below_step (below_step hb0 hb1) hb2) (.cells (cs 16 (wayT r)) 44)
  have hne : w.heap.size + 1 + 1 < w2.heap.size := ((HZ0.grown hb1).grown hb2).lt
  generalize w2.alloc (.cells (cs 16 (wayT r)) 44) = W at HT HZ HD hb
  refine wp_region_held_drew (S := fun W => Row W (w.heap.size + 1) 44 16 t ∧ Row W w2.heap.size 44 16 (wayT r) ∧ ∃ f, Row W (w.heap.size + 1 + 1) 44 16 f) (by kernel_rfl) ?_ (fun hS => ?_)
  · exact ⟨HT.drew, HD.drew, _, HZ.drew⟩
  refine wpAnyH_take (i := 0) (v := .agg (cs 16 (wayT r))) rfl (by kernel_rfl) (by kernel_rfl) (by kernel_rfl) (fun _ _ _ h => h) (yields_Row (by rfl) _ _ rfl (w2.heap.size) rfl (fun _ h => h.2.1) trans_u rfl trans_i) hS ?_
  simp only [Act.put, List.getElem_toArray, List.getElem_cons_succ, List.getElem_cons_zero, List.setIfInBounds_toArray, List.set_cons_zero, List.set_cons_succ]
  refine wpAnyH_take (i := 1) (v := .agg (cs 16 (wayT r))) rfl (by kernel_rfl) (by kernel_rfl) (by kernel_rfl) (fun _ _ _ h => h) (yields_Row (by rfl) _ _ rfl (w2.heap.size) rfl (fun _ h => h.2.1) trans_u rfl trans_i) hS ?_
  simp only [Act.put, List.getElem_toArray, List.getElem_cons_succ, List.getElem_cons_zero, List.setIfInBounds_toArray, List.set_cons_zero, List.set_cons_succ]
  refine wpAnyH_take (i := 2) (v := .agg (cs 16 (t))) rfl (by kernel_rfl) (by kernel_rfl) (by kernel_rfl) (fun _ _ _ h => h) (yields_Row (by rfl) _ _ rfl (w.heap.size + 1) rfl (fun _ h => h.1) trans_u rfl trans_i) hS ?_
  simp only [Act.put, List.getElem_toArray, List.getElem_cons_succ, List.getElem_cons_zero, List.setIfInBounds_toArray, List.set_cons_zero, List.set_cons_succ]
  refine wpAnyH_ready (rs := [3]) (by kernel_rfl) (by simp) ?_
  refine AllReadyH.cons rfl (fun K hK => ?_) AllReadyH.nil
  rw [if_pos (by rfl)]
  refine op_call 65 _ _ rfl (enters_of Try.func65 (by kernel_rfl) rfl) _ (impl_then _ _ ht _) rfl ?_
  rintro e w3 ⟨rfl, hb3⟩
  refine ⟨_, rfl, ?_⟩
  refine hK.out _ _ ?_ (fun hS1 => ?_)
  · exact ⟨hS.1.grown hb3, hS.2.1.grown hb3, _, hS.2.2.choose_spec.grown hb3⟩
  clear hK K
  replace hS := hS1
  clear hS1
  simp only [Act.put, List.getElem_toArray, List.getElem_cons_succ, List.getElem_cons_zero, List.setIfInBounds_toArray, List.set_cons_zero, List.set_cons_succ]
  refine wpAnyH_ready (rs := [4]) (by kernel_rfl) (by simp) ?_
  refine AllReadyH.cons rfl (fun K hK => ?_) AllReadyH.nil
  rw [if_pos (by rfl)]
  refine op_call 45 _ _ rfl (enters_of Try.func45 (by kernel_rfl) rfl) _ (impl_beforeMost _ _ _) rfl ?_
  rintro e w4 ⟨rfl, hb4⟩
  refine ⟨_, rfl, ?_⟩
  refine hK.out _ _ ?_ (fun hS1 => ?_)
  · exact ⟨hS.1.grown hb4, hS.2.1.grown hb4, _, hS.2.2.choose_spec.grown hb4⟩
  clear hK K
  replace hS := hS1
  clear hS1
  simp only [Act.put, List.getElem_toArray, List.getElem_cons_succ, List.getElem_cons_zero, List.setIfInBounds_toArray, List.set_cons_zero, List.set_cons_succ]
  have hS0 := hS
  refine wpAnyH_ready (rs := [5]) (by kernel_rfl) (by simp) ?_
  refine AllReadyH.cons rfl (fun K hK => ?_) AllReadyH.nil
  rw [if_pos (by rfl)]
  refine op_store_Row _ _ _ rfl (w.heap.size + 1 + 1) rfl (n := 16) (f := absT r t) rfl hS.2.2.choose_spec trans_i ?_
  refine hK.out _ _ ?_ (fun hS1 => ?_)
  · exact ⟨hS.1.setRowOther _ _ (by omega), hS.2.1.setRowOther _ _ (by omega), _, hS.2.2.choose_spec.setRow _⟩
  clear hK K
  replace hS := hS1
  clear hS1
  simp only [Act.put, List.getElem_toArray, List.getElem_cons_succ, List.getElem_cons_zero, List.setIfInBounds_toArray, List.set_cons_zero, List.set_cons_succ]
  refine wpAnyH_done (by kernel_rfl) ?_ _
  go_wp2_with fail
  refine ret_Row rfl (w.heap.size + 1 + 1) rfl (hS0.2.2.choose_spec.setRow _) trans_u rfl trans_i rfl ⟨rfl, below_setRow ?_ (by omega) _⟩
  exact below_step (below_step hb.drew hb3) hb4

theorem impl_AbstractMost (r t : ByteArray) (hr : r.size ≤ 4611686018427387904) (ht : t.size ≤ 4611686018427387904) (w : World) :
    Calls Try.prog 24 #[.string r, .string t] w fun e w' => e = .returned (.tuple #[.string (orNone (okTxt 4 r && okTr t) (txt 16 (absT (val r) (val t)))), .bool (okTxt 4 r && okTr t)]) ∧ Below w.heap.size w w' := by
  go_enter Try.func24, Try.ntmps24
  go_wp2_with fail
  refine (impl_behind r t hr ht _ #[] #[] absT (fun x y _ _ => absT_ok x y) _ (enters_of Try.func73 (by kernel_rfl) rfl) ?_).mono ?_
  · intro W x y hx hy hb
    exact impl_AbstractMost1 x y hy W
  rintro e w1 ⟨rfl, hb1⟩
  go_wp2_with fail
  go_ret2
  exact ⟨rfl, hb1⟩
end Go.Proofs.Ytfeaeabhnkehcaa
