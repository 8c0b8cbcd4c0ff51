/- Plays: the program's choices made (printed by mk6i.py). -/
import Derived.Test.YtaeibhpkcikaaaaGreatDoorGO
import Derived.Test.YtaeibhpkcikaaaaGreatDoorGL
namespace Go.Proofs.YtaeibhpkcikaaaaGreatDoor
set_option linter.unusedVariables false
set_option linter.unusedSimpArgs false
open Go.RowKit Go.Shelf
set_option maxRecDepth 100000
set_option maxHeartbeats 4000000

theorem AtP.setRow {w : World} {S : Nat → Prop} {ts : List Ct} {g cap b : Nat} {T : TypeId} {q : Option Addr} {l c : Nat} {i n : Int} (h : AtP w S ts g cap) (hB : Blk w b T #[.int .i64 i, .slice q l c, .int .i64 n]) (hS : ¬ S b) (d : Array Value) : AtP (w.setRow b d) S ts g cap := by
  obtain ⟨bs, h1, h2, h3⟩ := h
  refine ⟨bs, ⟨fun j x hj => ?_⟩, h2.map (fun t c h => Tree.kept (fun k hk _ => setRow_other _ _ _ _ (by rintro rfl; exact hS hk)) t c h), h3⟩
  have hc := h1.lies j x hj
  refine cell_kept hc (setRow_other _ _ _ _ fun e => ?_)
  rw [e, cell_of_row _ _ j _ _ _ hB.eq] at hc
  match j, hc with
  | 0, hc => simp [ptr] at hc
  | 1, hc => simp [ptr] at hc
  | 2, hc => simp [ptr] at hc
  | j + 3, hc => simp at hc
theorem Tree.drew1 {w : World} {S : Nat → Prop} (t : Ct) (b : Nat) (h : Tree w S t b) : Tree w.drew S t b := Tree.kept (w := w) (w' := w.drew) (fun _ _ _ => rfl) t b h
theorem AtP.drew {w : World} {S : Nat → Prop} {ts : List Ct} {g cap : Nat} (h : AtP w S ts g cap) : AtP w.drew S ts g cap := by
  obtain ⟨bs, h1, h2, h3⟩ := h
  exact ⟨bs, h1.drew, h2.map (fun t b h => Tree.drew1 t b h), h3⟩
/-- what holds of a place of the program while it is worked on -/
structure PlS (w W : World) (s : Nat) (m g cap n : Nat) : Prop where
  b : Below w.heap.size w W
  a : Blk W w.heap.size 50 #[.int .i64 s, .slice (some ⟨g, 0, none⟩) m cap, .int .i64 n]
  z : Blk W (w.heap.size + 1) 50 #[.int .i64 0, .slice none 0 0, .int .i64 0]
theorem PlS.grown {w W W' : World} {s m g cap n : Nat} (h : PlS w W s m g cap n) (hb : Below W.heap.size W W') : PlS w W' s m g cap n := ⟨below_step h.b hb, h.a.grown hb, h.z.grown hb⟩
theorem PlS.drew {w W : World} {s m g cap n : Nat} (h : PlS w W s m g cap n) : PlS w W.drew s m g cap n := ⟨h.b.drew, h.a.drew, h.z.drew⟩
theorem PlS.mk0 (w : World) (s m g cap n : Nat) : PlS w ((w.alloc (Obj.cells #[.int .i64 s, .slice (some ⟨g, 0, none⟩) m cap, .int .i64 n] 50)).alloc (Obj.cells #[.int .i64 0, .slice none 0 0, .int .i64 0] 50)) s m g cap n :=
  ⟨below_new (below_new (Below.refl _ _) _) _, (Blk.new w _ _).old _, Blk.newAt (w.alloc _) _ _ (w.heap.size + 1) (by simp)⟩

theorem impl_ch65 (S : Nat → Prop) (d : List Int) (ts : List Ct) (s n g cap k : Nat) (w : World) (hn : n ≤ 999) (hP : AtP w S (Ct.n0 65 d :: ts) g cap) (hlen : ts.length ≤ 100000) (hS : ∀ q, S q → q < w.heap.size) :
    Calls Tryz.prog 28 #[.agg #[.int .i64 s, .slice (some ⟨g, 0, none⟩) (ts.length + 1) cap, .int .i64 n], .int .i64 k] w (PutEnd S k (n + 1) (([] : List Ct) ++ ts) w) := by
  obtain ⟨fs, hu⟩ := pl_u
  obtain ⟨b, hl, hT⟩ := hP.top
  have hT' := hT
  obtain ⟨_, hN⟩ := hT
  have H0 := PlS.mk0 w s (ts.length + 1) g cap n
  have hl' : ∀ o p, ((w.alloc o).alloc p).cell? ⟨g, ts.length, none⟩ = some (.pointer (some ⟨b, 0, none⟩)) := fun o p => cell_grown hl (below_new (below_new (Below.refl _ _) _) _)
  have hop : ∀ o p, ((w.alloc o).alloc p).cell? ⟨b, 0, none⟩ = some (.int .u8 65) := fun o p => (hN.grown (below_new (below_new (Below.refl _ _) _) _)).op
  go_enter Tryz.func28, Tryz.ntmps28
  go_wp2_with (refine wp_load_Blk rfl _ _ rfl w.heap.size rfl H0.a hu rfl pl_i ?_)
  refine (impl_putP S s k n (by omega) _ ts [] g cap none 0 _ (hP.grown H0.b) hlen (by simp) (by simp)).mono ?_
  rintro e w1 ⟨g2, cap2, rfl, hP2, hb1⟩
  have HZ := H0.z.grown hb1
  have hbw := below_step H0.b hb1
  go_wp2_with (refine wp_store_Blk rfl _ _ _ rfl (w.heap.size + 1) rfl rfl HZ pl_i rfl (by simp [Value.oneCell']) ?_)
  refine ret_Blk rfl (w.heap.size + 1) rfl (HZ.setRow _) hu rfl pl_i rfl ⟨g2, cap2, rfl, hP2.setRow HZ (fun h => by have := hS _ h; omega) _, below_setRow hbw (by omega) _⟩

theorem impl_ch68 (S : Nat → Prop) (d : List Int) (ts : List Ct) (s n g cap k : Nat) (w : World) (hn : n ≤ 999) (hP : AtP w S (Ct.n0 68 d :: ts) g cap) (hlen : ts.length ≤ 100000) (hS : ∀ q, S q → q < w.heap.size) :
    Calls Tryz.prog 28 #[.agg #[.int .i64 s, .slice (some ⟨g, 0, none⟩) (ts.length + 1) cap, .int .i64 n], .int .i64 k] w (PutEnd S k (n + 1) (([] : List Ct) ++ ts) w) := by
  obtain ⟨fs, hu⟩ := pl_u
  obtain ⟨b, hl, hT⟩ := hP.top
  have hT' := hT
  obtain ⟨_, hN⟩ := hT
  have H0 := PlS.mk0 w s (ts.length + 1) g cap n
  have hl' : ∀ o p, ((w.alloc o).alloc p).cell? ⟨g, ts.length, none⟩ = some (.pointer (some ⟨b, 0, none⟩)) := fun o p => cell_grown hl (below_new (below_new (Below.refl _ _) _) _)
  have hop : ∀ o p, ((w.alloc o).alloc p).cell? ⟨b, 0, none⟩ = some (.int .u8 68) := fun o p => (hN.grown (below_new (below_new (Below.refl _ _) _) _)).op
  go_enter Tryz.func28, Tryz.ntmps28
  go_wp2_with (refine wp_load_Blk rfl _ _ rfl w.heap.size rfl H0.a hu rfl pl_i ?_)
  refine (impl_putP S s k n (by omega) _ ts [] g cap none 0 _ (hP.grown H0.b) hlen (by simp) (by simp)).mono ?_
  rintro e w1 ⟨g2, cap2, rfl, hP2, hb1⟩
  have HZ := H0.z.grown hb1
  have hbw := below_step H0.b hb1
  go_wp2_with (refine wp_store_Blk rfl _ _ _ rfl (w.heap.size + 1) rfl rfl HZ pl_i rfl (by simp [Value.oneCell']) ?_)
  refine ret_Blk rfl (w.heap.size + 1) rfl (HZ.setRow _) hu rfl pl_i rfl ⟨g2, cap2, rfl, hP2.setRow HZ (fun h => by have := hS _ h; omega) _, below_setRow hbw (by omega) _⟩

theorem impl_ch42_0 (S : Nat → Prop) (d : List Int) (x : Ct) (ts : List Ct) (s n g cap : Nat) (w : World) (hn : n ≤ 999) (hP : AtP w S (Ct.n1 42 d x :: ts) g cap) (hlen : ts.length ≤ 100000) (hS : ∀ q, S q → q < w.heap.size) :
    Calls Tryz.prog 28 #[.agg #[.int .i64 s, .slice (some ⟨g, 0, none⟩) (ts.length + 1) cap, .int .i64 n], .int .i64 0] w (PutEnd S s (n + 1) (([] : List Ct) ++ ts) w) := by
  obtain ⟨fs, hu⟩ := pl_u
  obtain ⟨b, hl, hT⟩ := hP.top
  have hT' := hT
  obtain ⟨g', cap', c, hSn, hN, hc0, hTx⟩ := hT
  have H0 := PlS.mk0 w s (ts.length + 1) g cap n
  have hl' : ∀ o p, ((w.alloc o).alloc p).cell? ⟨g, ts.length, none⟩ = some (.pointer (some ⟨b, 0, none⟩)) := fun o p => cell_grown hl (below_new (below_new (Below.refl _ _) _) _)
  have hop : ∀ o p, ((w.alloc o).alloc p).cell? ⟨b, 0, none⟩ = some (.int .u8 42) := fun o p => (hN.grown (below_new (below_new (Below.refl _ _) _) _)).op
  go_enter Tryz.func28, Tryz.ntmps28
  go_wp2_with (refine wp_load_Blk rfl _ _ rfl w.heap.size rfl H0.a hu rfl pl_i ?_)
  refine (impl_putP S s s n (by omega) _ ts [] g cap none 0 _ (hP.grown H0.b) hlen (by simp) (by simp)).mono ?_
  rintro e w1 ⟨g2, cap2, rfl, hP2, hb1⟩
  have HZ := H0.z.grown hb1
  have hbw := below_step H0.b hb1
  go_wp2_with (refine wp_store_Blk rfl _ _ _ rfl (w.heap.size + 1) rfl rfl HZ pl_i rfl (by simp [Value.oneCell']) ?_)
  refine ret_Blk rfl (w.heap.size + 1) rfl (HZ.setRow _) hu rfl pl_i rfl ⟨g2, cap2, rfl, hP2.setRow HZ (fun h => by have := hS _ h; omega) _, below_setRow hbw (by omega) _⟩

theorem impl_ch43_0 (S : Nat → Prop) (d : List Int) (x : Ct) (ts : List Ct) (s n g cap : Nat) (w : World) (hn : n ≤ 999) (hP : AtP w S (Ct.n1 43 d x :: ts) g cap) (hlen : ts.length ≤ 100000) (hS : ∀ q, S q → q < w.heap.size) :
    Calls Tryz.prog 28 #[.agg #[.int .i64 s, .slice (some ⟨g, 0, none⟩) (ts.length + 1) cap, .int .i64 n], .int .i64 0] w (PutEnd S s (n + 1) (([] : List Ct) ++ ts) w) := by
  obtain ⟨fs, hu⟩ := pl_u
  obtain ⟨b, hl, hT⟩ := hP.top
  have hT' := hT
  obtain ⟨g', cap', c, hSn, hN, hc0, hTx⟩ := hT
  have H0 := PlS.mk0 w s (ts.length + 1) g cap n
  have hl' : ∀ o p, ((w.alloc o).alloc p).cell? ⟨g, ts.length, none⟩ = some (.pointer (some ⟨b, 0, none⟩)) := fun o p => cell_grown hl (below_new (below_new (Below.refl _ _) _) _)
  have hop : ∀ o p, ((w.alloc o).alloc p).cell? ⟨b, 0, none⟩ = some (.int .u8 43) := fun o p => (hN.grown (below_new (below_new (Below.refl _ _) _) _)).op
  go_enter Tryz.func28, Tryz.ntmps28
  go_wp2_with (refine wp_load_Blk rfl _ _ rfl w.heap.size rfl H0.a hu rfl pl_i ?_)
  refine (impl_putP S s s n (by omega) _ ts [] g cap none 0 _ (hP.grown H0.b) hlen (by simp) (by simp)).mono ?_
  rintro e w1 ⟨g2, cap2, rfl, hP2, hb1⟩
  have HZ := H0.z.grown hb1
  have hbw := below_step H0.b hb1
  go_wp2_with (refine wp_store_Blk rfl _ _ _ rfl (w.heap.size + 1) rfl rfl HZ pl_i rfl (by simp [Value.oneCell']) ?_)
  refine ret_Blk rfl (w.heap.size + 1) rfl (HZ.setRow _) hu rfl pl_i rfl ⟨g2, cap2, rfl, hP2.setRow HZ (fun h => by have := hS _ h; omega) _, below_setRow hbw (by omega) _⟩

theorem impl_ch42_1 (S : Nat → Prop) (d : List Int) (x : Ct) (ts : List Ct) (s n g cap : Nat) (w : World) (hn : n ≤ 999) (hP : AtP w S (Ct.n1 42 d x :: ts) g cap) (hlen : ts.length ≤ 100000) (hS : ∀ q, S q → q < w.heap.size) :
    Calls Tryz.prog 28 #[.agg #[.int .i64 s, .slice (some ⟨g, 0, none⟩) (ts.length + 1) cap, .int .i64 n], .int .i64 1] w (PutEnd S s (n + 1) ([x, Ct.n1 42 d x] ++ ts) w) := by
  obtain ⟨fs, hu⟩ := pl_u
  obtain ⟨b, hl, hT⟩ := hP.top
  have hT' := hT
  obtain ⟨g', cap', c, hSn, hN, hc0, hTx⟩ := hT
  have H0 := PlS.mk0 w s (ts.length + 1) g cap n
  have hl' : ∀ o p, ((w.alloc o).alloc p).cell? ⟨g, ts.length, none⟩ = some (.pointer (some ⟨b, 0, none⟩)) := fun o p => cell_grown hl (below_new (below_new (Below.refl _ _) _) _)
  have hop : ∀ o p, ((w.alloc o).alloc p).cell? ⟨b, 0, none⟩ = some (.int .u8 42) := fun o p => (hN.grown (below_new (below_new (Below.refl _ _) _) _)).op
  go_enter Tryz.func28, Tryz.ntmps28
  go_wp2_with fail
  have HZ0 := H0.z.drew
  generalize hW0 : ((w.alloc (Obj.cells #[.int .i64 s, .slice (some ⟨g, 0, none⟩) (ts.length + 1) cap, .int .i64 n] 50)).alloc (Obj.cells #[.int .i64 0, .slice none 0 0, .int .i64 0] 50)) = W1 at *
  have hSB := hS
  clear hS hW0 hl' hop
  refine wp_region_held_drew (S := fun W => Below w.heap.size w W ∧ Blk W w.heap.size 50 #[.int .i64 s, .slice (some ⟨g, 0, none⟩) (ts.length + 1) cap, .int .i64 n]) (by kernel_rfl) ?_ (fun hS => ?_)
  · exact ⟨H0.b.drew, H0.a.drew⟩
  refine wpAnyH_take (i := 0) (v := .agg #[.int .i64 s, .slice (some ⟨g, 0, none⟩) (ts.length + 1) cap, .int .i64 n]) rfl (by kernel_rfl) (by kernel_rfl) (by kernel_rfl) (fun _ _ _ h => h) (yields_Blk (by rfl) _ _ rfl w.heap.size rfl (fun _ h => h.2) hu rfl pl_i) hS ?_
  simp only [Act.put, List.getElem_toArray, List.getElem_cons_succ, List.getElem_cons_zero, List.setIfInBounds_toArray, List.set_cons_zero, List.set_cons_succ]
  refine wpAnyH_take (i := 1) (v := .pointer (some ⟨w.heap.size, 0, none⟩)) rfl (by kernel_rfl) (by kernel_rfl) (by kernel_rfl) (fun _ _ _ h => h) (Or.inl ⟨by rfl, ?_⟩) hS ?_
  · intro w hSw
    go_simp
  simp only [Act.put, List.getElem_toArray, List.getElem_cons_succ, List.getElem_cons_zero, List.setIfInBounds_toArray, List.set_cons_zero, List.set_cons_succ]
  refine wpAnyH_take (i := 2) (v := .int .i64 s) rfl (by kernel_rfl) (by kernel_rfl) (by kernel_rfl) (fun _ _ _ h => h) (Or.inl ⟨by rfl, ?_⟩) hS ?_
  · rintro W hSw
    have h7 := hSw.2.cell3.1
    clear hSw
    go_simp
  simp only [Act.put, List.getElem_toArray, List.getElem_cons_succ, List.getElem_cons_zero, List.setIfInBounds_toArray, List.set_cons_zero, List.set_cons_succ]
  refine wpAnyH_take (i := 3) (v := .pointer (some ⟨b, 0, none⟩)) rfl (by kernel_rfl) (by kernel_rfl) (by kernel_rfl) (fun _ _ _ h => h) (Or.inl ⟨by rfl, ?_⟩) hS ?_
  · intro w hSw
    go_simp
  simp only [Act.put, List.getElem_toArray, List.getElem_cons_succ, List.getElem_cons_zero, List.setIfInBounds_toArray, List.set_cons_zero, List.set_cons_succ]
  refine wpAnyH_take (i := 4) (v := .pointer (some ⟨b, 0, none⟩)) rfl (by kernel_rfl) (by kernel_rfl) (by kernel_rfl) (fun _ _ _ h => h) (Or.inl ⟨by rfl, ?_⟩) hS ?_
  · intro w hSw
    go_simp
  simp only [Act.put, List.getElem_toArray, List.getElem_cons_succ, List.getElem_cons_zero, List.setIfInBounds_toArray, List.set_cons_zero, List.set_cons_succ]
  refine wpAnyH_take (i := 5) (v := .pointer (some ⟨b, 6, none⟩)) rfl (by kernel_rfl) (by kernel_rfl) (by kernel_rfl) (fun _ _ _ h => h) (Or.inl ⟨by rfl, ?_⟩) hS ?_
  · intro w hSw
    go_simp
  simp only [Act.put, List.getElem_toArray, List.getElem_cons_succ, List.getElem_cons_zero, List.setIfInBounds_toArray, List.set_cons_zero, List.set_cons_succ]
  refine wpAnyH_take (i := 6) (v := .slice (some ⟨g', 0, none⟩) 1 cap') rfl (by kernel_rfl) (by kernel_rfl) (by kernel_rfl) (fun _ _ _ h => h) (Or.inl ⟨by rfl, ?_⟩) hS ?_
  · rintro W hSw
    have h7 := (hN.grown hSw.1).parts
    clear hSw
    go_simp
  simp only [Act.put, List.getElem_toArray, List.getElem_cons_succ, List.getElem_cons_zero, List.setIfInBounds_toArray, List.set_cons_zero, List.set_cons_succ]
  refine wpAnyH_take (i := 7) (v := .pointer (some ⟨g', 0, none⟩)) rfl (by kernel_rfl) (by kernel_rfl) (by kernel_rfl) (fun _ _ _ h => h) (Or.inl ⟨by rfl, ?_⟩) hS ?_
  · intro w hSw
    go_simp
  simp only [Act.put, List.getElem_toArray, List.getElem_cons_succ, List.getElem_cons_zero, List.setIfInBounds_toArray, List.set_cons_zero, List.set_cons_succ]
  refine wpAnyH_take (i := 8) (v := .pointer (some ⟨c, 0, none⟩)) rfl (by kernel_rfl) (by kernel_rfl) (by kernel_rfl) (fun _ _ _ h => h) (Or.inl ⟨by rfl, ?_⟩) hS ?_
  · rintro W hSw
    have h7 : W.cell? ⟨g', 0, none⟩ = some (.pointer (some ⟨c, 0, none⟩)) := cell_grown hc0 hSw.1
    clear hSw
    go_simp
  simp only [Act.put, List.getElem_toArray, List.getElem_cons_succ, List.getElem_cons_zero, List.setIfInBounds_toArray, List.set_cons_zero, List.set_cons_succ]
  refine wpAnyH_take (i := 9) (v := .pointer (some ⟨b, 0, none⟩)) rfl (by kernel_rfl) (by kernel_rfl) (by kernel_rfl) (fun _ _ _ h => h) (Or.inl ⟨by rfl, ?_⟩) hS ?_
  · intro w hSw
    go_simp
  simp only [Act.put, List.getElem_toArray, List.getElem_cons_succ, List.getElem_cons_zero, List.setIfInBounds_toArray, List.set_cons_zero, List.set_cons_succ]
  generalize hW0 : W1.drew = W0 at *
  clear hW0
  refine wpAnyH_ready (rs := [10]) (by kernel_rfl) (by simp) ?_
  refine AllReadyH.cons rfl (fun K hK => ?_) AllReadyH.nil
  rw [if_pos (by rfl)]
  unfold Oper.wp
  go_simp
  have hS2 : Below w.heap.size w (W0.alloc (Obj.cells #[.pointer (some ⟨c, 0, none⟩), .pointer (some ⟨b, 0, none⟩)] 44)) ∧ Blk (W0.alloc (Obj.cells #[.pointer (some ⟨c, 0, none⟩), .pointer (some ⟨b, 0, none⟩)] 44)) w.heap.size 50 #[.int .i64 s, .slice (some ⟨g, 0, none⟩) (ts.length + 1) cap, .int .i64 n] := ⟨below_new hS.1 _, hS.2.old _⟩
  have h0 : (W0.alloc (Obj.cells #[.pointer (some ⟨c, 0, none⟩), .pointer (some ⟨b, 0, none⟩)] 44)).heap[W0.heap.size]? = some (.cells #[.pointer (some ⟨c, 0, none⟩), .pointer (some ⟨b, 0, none⟩)] 44 (0, 0)) := heap_alloc_new W0 _
  have HZA := HZ0.old (Obj.cells #[.pointer (some ⟨c, 0, none⟩), .pointer (some ⟨b, 0, none⟩)] 44)
  refine hK.out _ (W0.alloc (Obj.cells #[.pointer (some ⟨c, 0, none⟩), .pointer (some ⟨b, 0, none⟩)] 44)) hS2 (fun hS1 => ?_)
  clear hK K hS hS2
  replace hS := hS1
  clear hS1
  try simp only [Act.put, List.getElem_toArray, List.getElem_cons_succ, List.getElem_cons_zero, List.setIfInBounds_toArray, List.set_cons_zero, List.set_cons_succ]
  refine wpAnyH_ready (rs := [11]) (by kernel_rfl) (by simp) ?_
  refine AllReadyH.cons rfl (fun K hK => ?_) AllReadyH.nil
  rw [if_pos (by rfl)]
  refine op_call 63 _ _ rfl (enters_of Tryz.func63 (by kernel_rfl) rfl) _ (impl_putP S s s n (by omega) _ ts [x, Ct.n1 42 d x] g cap (some ⟨W0.heap.size, 0, none⟩) 2 _ (hP.grown hS.1) hlen ?tx (by simp)) rfl ?_
  case tx =>
    intro j z hj
    match j, hj with
    | 0, hj => simp at hj; subst hj; exact ⟨_, c, rfl, (cell_of_row _ _ 0 _ _ _ h0).trans rfl, Tree.grown hS.1 _ _ hTx⟩
    | 1, hj => simp at hj; subst hj; exact ⟨_, b, rfl, (cell_of_row _ _ 1 _ _ _ h0).trans rfl, Tree.grown hS.1 _ _ hT'⟩
    | j + 2, hj => simp at hj
  rintro e w2 ⟨g2, cap2, rfl, hP2, hb2⟩
  refine ⟨_, rfl, ?_⟩
  have HZ2 := HZA.grown hb2
  have hS2 : Below w.heap.size w w2 ∧ Blk w2 w.heap.size 50 #[.int .i64 s, .slice (some ⟨g, 0, none⟩) (ts.length + 1) cap, .int .i64 n] := ⟨below_step hS.1 hb2, hS.2.grown hb2⟩
  refine hK.out _ _ hS2 (fun hS1 => ?_)
  clear hK K hS hS2
  replace hS := hS1
  clear hS1
  try simp only [Act.put, List.getElem_toArray, List.getElem_cons_succ, List.getElem_cons_zero, List.setIfInBounds_toArray, List.set_cons_zero, List.set_cons_succ]
  refine wpAnyH_ready (rs := [12]) (by kernel_rfl) (by simp) ?_
  refine AllReadyH.cons rfl (fun K hK => ?_) AllReadyH.nil
  rw [if_pos (by rfl)]
  refine op_store_Blk _ _ _ rfl (w.heap.size + 1) rfl rfl HZ2 pl_i rfl (by simp [Value.oneCell']) ?_
  refine hK.out _ _ ⟨below_setRow hS.1 (by omega) _, hS.2.setRowOther _ _ (by omega)⟩ (fun _ => ?_)
  clear hK K
  try simp only [Act.put, List.getElem_toArray, List.getElem_cons_succ, List.getElem_cons_zero, List.setIfInBounds_toArray, List.set_cons_zero, List.set_cons_succ]
  refine wpAnyH_done (by kernel_rfl) ?_ _
  go_wp2_with fail
  refine ret_Blk rfl (w.heap.size + 1) rfl (HZ2.setRow _) hu rfl pl_i rfl ⟨g2, cap2, rfl, hP2.setRow HZ2 (fun h => by have := hSB _ h; omega) _, below_setRow hS.1 (by omega) _⟩

theorem impl_ch43_1 (S : Nat → Prop) (d : List Int) (x : Ct) (ts : List Ct) (s n g cap : Nat) (w : World) (hn : n ≤ 999) (hP : AtP w S (Ct.n1 43 d x :: ts) g cap) (hlen : ts.length ≤ 100000) (hS : ∀ q, S q → q < w.heap.size) :
    Calls Tryz.prog 28 #[.agg #[.int .i64 s, .slice (some ⟨g, 0, none⟩) (ts.length + 1) cap, .int .i64 n], .int .i64 1] w (PutEnd S s (n + 1) ([x, Ct.n1 43 d x] ++ ts) w) := by
  obtain ⟨fs, hu⟩ := pl_u
  obtain ⟨b, hl, hT⟩ := hP.top
  have hT' := hT
  obtain ⟨g', cap', c, hSn, hN, hc0, hTx⟩ := hT
  have H0 := PlS.mk0 w s (ts.length + 1) g cap n
  have hl' : ∀ o p, ((w.alloc o).alloc p).cell? ⟨g, ts.length, none⟩ = some (.pointer (some ⟨b, 0, none⟩)) := fun o p => cell_grown hl (below_new (below_new (Below.refl _ _) _) _)
  have hop : ∀ o p, ((w.alloc o).alloc p).cell? ⟨b, 0, none⟩ = some (.int .u8 43) := fun o p => (hN.grown (below_new (below_new (Below.refl _ _) _) _)).op
  go_enter Tryz.func28, Tryz.ntmps28
  go_wp2_with fail
  have HZ0 := H0.z.drew
  generalize hW0 : ((w.alloc (Obj.cells #[.int .i64 s, .slice (some ⟨g, 0, none⟩) (ts.length + 1) cap, .int .i64 n] 50)).alloc (Obj.cells #[.int .i64 0, .slice none 0 0, .int .i64 0] 50)) = W1 at *
  have hSB := hS
  clear hS hW0 hl' hop
  refine wp_region_held_drew (S := fun W => Below w.heap.size w W ∧ Blk W w.heap.size 50 #[.int .i64 s, .slice (some ⟨g, 0, none⟩) (ts.length + 1) cap, .int .i64 n]) (by kernel_rfl) ?_ (fun hS => ?_)
  · exact ⟨H0.b.drew, H0.a.drew⟩
  refine wpAnyH_take (i := 0) (v := .agg #[.int .i64 s, .slice (some ⟨g, 0, none⟩) (ts.length + 1) cap, .int .i64 n]) rfl (by kernel_rfl) (by kernel_rfl) (by kernel_rfl) (fun _ _ _ h => h) (yields_Blk (by rfl) _ _ rfl w.heap.size rfl (fun _ h => h.2) hu rfl pl_i) hS ?_
  simp only [Act.put, List.getElem_toArray, List.getElem_cons_succ, List.getElem_cons_zero, List.setIfInBounds_toArray, List.set_cons_zero, List.set_cons_succ]
  refine wpAnyH_take (i := 1) (v := .pointer (some ⟨w.heap.size, 0, none⟩)) rfl (by kernel_rfl) (by kernel_rfl) (by kernel_rfl) (fun _ _ _ h => h) (Or.inl ⟨by rfl, ?_⟩) hS ?_
  · intro w hSw
    go_simp
  simp only [Act.put, List.getElem_toArray, List.getElem_cons_succ, List.getElem_cons_zero, List.setIfInBounds_toArray, List.set_cons_zero, List.set_cons_succ]
  refine wpAnyH_take (i := 2) (v := .int .i64 s) rfl (by kernel_rfl) (by kernel_rfl) (by kernel_rfl) (fun _ _ _ h => h) (Or.inl ⟨by rfl, ?_⟩) hS ?_
  · rintro W hSw
    have h7 := hSw.2.cell3.1
    clear hSw
    go_simp
  simp only [Act.put, List.getElem_toArray, List.getElem_cons_succ, List.getElem_cons_zero, List.setIfInBounds_toArray, List.set_cons_zero, List.set_cons_succ]
  refine wpAnyH_take (i := 3) (v := .pointer (some ⟨b, 0, none⟩)) rfl (by kernel_rfl) (by kernel_rfl) (by kernel_rfl) (fun _ _ _ h => h) (Or.inl ⟨by rfl, ?_⟩) hS ?_
  · intro w hSw
    go_simp
  simp only [Act.put, List.getElem_toArray, List.getElem_cons_succ, List.getElem_cons_zero, List.setIfInBounds_toArray, List.set_cons_zero, List.set_cons_succ]
  refine wpAnyH_take (i := 4) (v := .pointer (some ⟨b, 0, none⟩)) rfl (by kernel_rfl) (by kernel_rfl) (by kernel_rfl) (fun _ _ _ h => h) (Or.inl ⟨by rfl, ?_⟩) hS ?_
  · intro w hSw
    go_simp
  simp only [Act.put, List.getElem_toArray, List.getElem_cons_succ, List.getElem_cons_zero, List.setIfInBounds_toArray, List.set_cons_zero, List.set_cons_succ]
  refine wpAnyH_take (i := 5) (v := .pointer (some ⟨b, 6, none⟩)) rfl (by kernel_rfl) (by kernel_rfl) (by kernel_rfl) (fun _ _ _ h => h) (Or.inl ⟨by rfl, ?_⟩) hS ?_
  · intro w hSw
    go_simp
  simp only [Act.put, List.getElem_toArray, List.getElem_cons_succ, List.getElem_cons_zero, List.setIfInBounds_toArray, List.set_cons_zero, List.set_cons_succ]
  refine wpAnyH_take (i := 6) (v := .slice (some ⟨g', 0, none⟩) 1 cap') rfl (by kernel_rfl) (by kernel_rfl) (by kernel_rfl) (fun _ _ _ h => h) (Or.inl ⟨by rfl, ?_⟩) hS ?_
  · rintro W hSw
    have h7 := (hN.grown hSw.1).parts
    clear hSw
    go_simp
  simp only [Act.put, List.getElem_toArray, List.getElem_cons_succ, List.getElem_cons_zero, List.setIfInBounds_toArray, List.set_cons_zero, List.set_cons_succ]
  refine wpAnyH_take (i := 7) (v := .pointer (some ⟨g', 0, none⟩)) rfl (by kernel_rfl) (by kernel_rfl) (by kernel_rfl) (fun _ _ _ h => h) (Or.inl ⟨by rfl, ?_⟩) hS ?_
  · intro w hSw
    go_simp
  simp only [Act.put, List.getElem_toArray, List.getElem_cons_succ, List.getElem_cons_zero, List.setIfInBounds_toArray, List.set_cons_zero, List.set_cons_succ]
  refine wpAnyH_take (i := 8) (v := .pointer (some ⟨c, 0, none⟩)) rfl (by kernel_rfl) (by kernel_rfl) (by kernel_rfl) (fun _ _ _ h => h) (Or.inl ⟨by rfl, ?_⟩) hS ?_
  · rintro W hSw
    have h7 : W.cell? ⟨g', 0, none⟩ = some (.pointer (some ⟨c, 0, none⟩)) := cell_grown hc0 hSw.1
    clear hSw
    go_simp
  simp only [Act.put, List.getElem_toArray, List.getElem_cons_succ, List.getElem_cons_zero, List.setIfInBounds_toArray, List.set_cons_zero, List.set_cons_succ]
  refine wpAnyH_take (i := 9) (v := .pointer (some ⟨b, 0, none⟩)) rfl (by kernel_rfl) (by kernel_rfl) (by kernel_rfl) (fun _ _ _ h => h) (Or.inl ⟨by rfl, ?_⟩) hS ?_
  · intro w hSw
    go_simp
  simp only [Act.put, List.getElem_toArray, List.getElem_cons_succ, List.getElem_cons_zero, List.setIfInBounds_toArray, List.set_cons_zero, List.set_cons_succ]
  generalize hW0 : W1.drew = W0 at *
  clear hW0
  refine wpAnyH_ready (rs := [10]) (by kernel_rfl) (by simp) ?_
  refine AllReadyH.cons rfl (fun K hK => ?_) AllReadyH.nil
  rw [if_pos (by rfl)]
  unfold Oper.wp
  go_simp
  have hS2 : Below w.heap.size w (W0.alloc (Obj.cells #[.pointer (some ⟨c, 0, none⟩), .pointer (some ⟨b, 0, none⟩)] 44)) ∧ Blk (W0.alloc (Obj.cells #[.pointer (some ⟨c, 0, none⟩), .pointer (some ⟨b, 0, none⟩)] 44)) w.heap.size 50 #[.int .i64 s, .slice (some ⟨g, 0, none⟩) (ts.length + 1) cap, .int .i64 n] := ⟨below_new hS.1 _, hS.2.old _⟩
  have h0 : (W0.alloc (Obj.cells #[.pointer (some ⟨c, 0, none⟩), .pointer (some ⟨b, 0, none⟩)] 44)).heap[W0.heap.size]? = some (.cells #[.pointer (some ⟨c, 0, none⟩), .pointer (some ⟨b, 0, none⟩)] 44 (0, 0)) := heap_alloc_new W0 _
  have HZA := HZ0.old (Obj.cells #[.pointer (some ⟨c, 0, none⟩), .pointer (some ⟨b, 0, none⟩)] 44)
  refine hK.out _ (W0.alloc (Obj.cells #[.pointer (some ⟨c, 0, none⟩), .pointer (some ⟨b, 0, none⟩)] 44)) hS2 (fun hS1 => ?_)
  clear hK K hS hS2
  replace hS := hS1
  clear hS1
  try simp only [Act.put, List.getElem_toArray, List.getElem_cons_succ, List.getElem_cons_zero, List.setIfInBounds_toArray, List.set_cons_zero, List.set_cons_succ]
  refine wpAnyH_ready (rs := [11]) (by kernel_rfl) (by simp) ?_
  refine AllReadyH.cons rfl (fun K hK => ?_) AllReadyH.nil
  rw [if_pos (by rfl)]
  refine op_call 63 _ _ rfl (enters_of Tryz.func63 (by kernel_rfl) rfl) _ (impl_putP S s s n (by omega) _ ts [x, Ct.n1 43 d x] g cap (some ⟨W0.heap.size, 0, none⟩) 2 _ (hP.grown hS.1) hlen ?tx (by simp)) rfl ?_
  case tx =>
    intro j z hj
    match j, hj with
    | 0, hj => simp at hj; subst hj; exact ⟨_, c, rfl, (cell_of_row _ _ 0 _ _ _ h0).trans rfl, Tree.grown hS.1 _ _ hTx⟩
    | 1, hj => simp at hj; subst hj; exact ⟨_, b, rfl, (cell_of_row _ _ 1 _ _ _ h0).trans rfl, Tree.grown hS.1 _ _ hT'⟩
    | j + 2, hj => simp at hj
  rintro e w2 ⟨g2, cap2, rfl, hP2, hb2⟩
  refine ⟨_, rfl, ?_⟩
  have HZ2 := HZA.grown hb2
  have hS2 : Below w.heap.size w w2 ∧ Blk w2 w.heap.size 50 #[.int .i64 s, .slice (some ⟨g, 0, none⟩) (ts.length + 1) cap, .int .i64 n] := ⟨below_step hS.1 hb2, hS.2.grown hb2⟩
  refine hK.out _ _ hS2 (fun hS1 => ?_)
  clear hK K hS hS2
  replace hS := hS1
  clear hS1
  try simp only [Act.put, List.getElem_toArray, List.getElem_cons_succ, List.getElem_cons_zero, List.setIfInBounds_toArray, List.set_cons_zero, List.set_cons_succ]
  refine wpAnyH_ready (rs := [12]) (by kernel_rfl) (by simp) ?_
  refine AllReadyH.cons rfl (fun K hK => ?_) AllReadyH.nil
  rw [if_pos (by rfl)]
  refine op_store_Blk _ _ _ rfl (w.heap.size + 1) rfl rfl HZ2 pl_i rfl (by simp [Value.oneCell']) ?_
  refine hK.out _ _ ⟨below_setRow hS.1 (by omega) _, hS.2.setRowOther _ _ (by omega)⟩ (fun _ => ?_)
  clear hK K
  try simp only [Act.put, List.getElem_toArray, List.getElem_cons_succ, List.getElem_cons_zero, List.setIfInBounds_toArray, List.set_cons_zero, List.set_cons_succ]
  refine wpAnyH_done (by kernel_rfl) ?_ _
  go_wp2_with fail
  refine ret_Blk rfl (w.heap.size + 1) rfl (HZ2.setRow _) hu rfl pl_i rfl ⟨g2, cap2, rfl, hP2.setRow HZ2 (fun h => by have := hSB _ h; omega) _, below_setRow hS.1 (by omega) _⟩

theorem impl_ch38_0 (S : Nat → Prop) (d : List Int) (x y : Ct) (ts : List Ct) (s n g cap : Nat) (w : World) (hn : n ≤ 999) (hP : AtP w S (Ct.n2 38 d x y :: ts) g cap) (hlen : ts.length ≤ 100000) (hS : ∀ q, S q → q < w.heap.size) :
    Calls Tryz.prog 28 #[.agg #[.int .i64 s, .slice (some ⟨g, 0, none⟩) (ts.length + 1) cap, .int .i64 n], .int .i64 0] w (PutEnd S s (n + 1) ([x] ++ ts) w) := by
  obtain ⟨fs, hu⟩ := pl_u
  obtain ⟨b, hl, hT⟩ := hP.top
  have hT' := hT
  obtain ⟨g', cap', c, e, hSn, hN, hc0, hc1, hTx, hTy⟩ := hT
  have H0 := PlS.mk0 w s (ts.length + 1) g cap n
  have hl' : ∀ o p, ((w.alloc o).alloc p).cell? ⟨g, ts.length, none⟩ = some (.pointer (some ⟨b, 0, none⟩)) := fun o p => cell_grown hl (below_new (below_new (Below.refl _ _) _) _)
  have hop : ∀ o p, ((w.alloc o).alloc p).cell? ⟨b, 0, none⟩ = some (.int .u8 38) := fun o p => (hN.grown (below_new (below_new (Below.refl _ _) _) _)).op
  go_enter Tryz.func28, Tryz.ntmps28
  go_wp2_with fail
  have HZ0 := H0.z.drew
  generalize hW0 : ((w.alloc (Obj.cells #[.int .i64 s, .slice (some ⟨g, 0, none⟩) (ts.length + 1) cap, .int .i64 n] 50)).alloc (Obj.cells #[.int .i64 0, .slice none 0 0, .int .i64 0] 50)) = W1 at *
  have hSB := hS
  clear hS hW0 hl' hop
  refine wp_region_held_drew (S := fun W => Below w.heap.size w W ∧ Blk W w.heap.size 50 #[.int .i64 s, .slice (some ⟨g, 0, none⟩) (ts.length + 1) cap, .int .i64 n]) (by kernel_rfl) ?_ (fun hS => ?_)
  · exact ⟨H0.b.drew, H0.a.drew⟩
  refine wpAnyH_take (i := 0) (v := .agg #[.int .i64 s, .slice (some ⟨g, 0, none⟩) (ts.length + 1) cap, .int .i64 n]) rfl (by kernel_rfl) (by kernel_rfl) (by kernel_rfl) (fun _ _ _ h => h) (yields_Blk (by rfl) _ _ rfl w.heap.size rfl (fun _ h => h.2) hu rfl pl_i) hS ?_
  simp only [Act.put, List.getElem_toArray, List.getElem_cons_succ, List.getElem_cons_zero, List.setIfInBounds_toArray, List.set_cons_zero, List.set_cons_succ]
  refine wpAnyH_take (i := 1) (v := .pointer (some ⟨w.heap.size, 0, none⟩)) rfl (by kernel_rfl) (by kernel_rfl) (by kernel_rfl) (fun _ _ _ h => h) (Or.inl ⟨by rfl, ?_⟩) hS ?_
  · intro w hSw
    go_simp
  simp only [Act.put, List.getElem_toArray, List.getElem_cons_succ, List.getElem_cons_zero, List.setIfInBounds_toArray, List.set_cons_zero, List.set_cons_succ]
  refine wpAnyH_take (i := 2) (v := .int .i64 s) rfl (by kernel_rfl) (by kernel_rfl) (by kernel_rfl) (fun _ _ _ h => h) (Or.inl ⟨by rfl, ?_⟩) hS ?_
  · rintro W hSw
    have h7 := hSw.2.cell3.1
    clear hSw
    go_simp
  simp only [Act.put, List.getElem_toArray, List.getElem_cons_succ, List.getElem_cons_zero, List.setIfInBounds_toArray, List.set_cons_zero, List.set_cons_succ]
  refine wpAnyH_take (i := 3) (v := .pointer (some ⟨b, 0, none⟩)) rfl (by kernel_rfl) (by kernel_rfl) (by kernel_rfl) (fun _ _ _ h => h) (Or.inl ⟨by rfl, ?_⟩) hS ?_
  · intro w hSw
    go_simp
  simp only [Act.put, List.getElem_toArray, List.getElem_cons_succ, List.getElem_cons_zero, List.setIfInBounds_toArray, List.set_cons_zero, List.set_cons_succ]
  refine wpAnyH_take (i := 4) (v := .pointer (some ⟨b, 0, none⟩)) rfl (by kernel_rfl) (by kernel_rfl) (by kernel_rfl) (fun _ _ _ h => h) (Or.inl ⟨by rfl, ?_⟩) hS ?_
  · intro w hSw
    go_simp
  simp only [Act.put, List.getElem_toArray, List.getElem_cons_succ, List.getElem_cons_zero, List.setIfInBounds_toArray, List.set_cons_zero, List.set_cons_succ]
  refine wpAnyH_take (i := 5) (v := .pointer (some ⟨b, 6, none⟩)) rfl (by kernel_rfl) (by kernel_rfl) (by kernel_rfl) (fun _ _ _ h => h) (Or.inl ⟨by rfl, ?_⟩) hS ?_
  · intro w hSw
    go_simp
  simp only [Act.put, List.getElem_toArray, List.getElem_cons_succ, List.getElem_cons_zero, List.setIfInBounds_toArray, List.set_cons_zero, List.set_cons_succ]
  refine wpAnyH_take (i := 6) (v := .slice (some ⟨g', 0, none⟩) 2 cap') rfl (by kernel_rfl) (by kernel_rfl) (by kernel_rfl) (fun _ _ _ h => h) (Or.inl ⟨by rfl, ?_⟩) hS ?_
  · rintro W hSw
    have h7 := (hN.grown hSw.1).parts
    clear hSw
    go_simp
  simp only [Act.put, List.getElem_toArray, List.getElem_cons_succ, List.getElem_cons_zero, List.setIfInBounds_toArray, List.set_cons_zero, List.set_cons_succ]
  refine wpAnyH_take (i := 7) (v := .int .i64 0) rfl (by kernel_rfl) (by kernel_rfl) (by kernel_rfl) (fun _ _ _ h => h) (Or.inl ⟨by rfl, ?_⟩) hS ?_
  · intro w hSw
    go_simp
  simp only [Act.put, List.getElem_toArray, List.getElem_cons_succ, List.getElem_cons_zero, List.setIfInBounds_toArray, List.set_cons_zero, List.set_cons_succ]
  refine wpAnyH_take (i := 8) (v := .pointer (some ⟨g', 0, none⟩)) rfl (by kernel_rfl) (by kernel_rfl) (by kernel_rfl) (fun _ _ _ h => h) (Or.inl ⟨by rfl, ?_⟩) hS ?_
  · intro w hSw
    go_simp
  simp only [Act.put, List.getElem_toArray, List.getElem_cons_succ, List.getElem_cons_zero, List.setIfInBounds_toArray, List.set_cons_zero, List.set_cons_succ]
  refine wpAnyH_take (i := 9) (v := .pointer (some ⟨c, 0, none⟩)) rfl (by kernel_rfl) (by kernel_rfl) (by kernel_rfl) (fun _ _ _ h => h) (Or.inl ⟨by rfl, ?_⟩) hS ?_
  · rintro W hSw
    have h7 : W.cell? ⟨g', 0, none⟩ = some (.pointer (some ⟨c, 0, none⟩)) := cell_grown hc0 hSw.1
    clear hSw
    go_simp
  simp only [Act.put, List.getElem_toArray, List.getElem_cons_succ, List.getElem_cons_zero, List.setIfInBounds_toArray, List.set_cons_zero, List.set_cons_succ]
  generalize hW0 : W1.drew = W0 at *
  clear hW0
  refine wpAnyH_ready (rs := [10]) (by kernel_rfl) (by simp) ?_
  refine AllReadyH.cons rfl (fun K hK => ?_) AllReadyH.nil
  rw [if_pos (by rfl)]
  unfold Oper.wp
  go_simp
  have hS2 : Below w.heap.size w (W0.alloc (Obj.cells #[.pointer (some ⟨c, 0, none⟩)] 44)) ∧ Blk (W0.alloc (Obj.cells #[.pointer (some ⟨c, 0, none⟩)] 44)) w.heap.size 50 #[.int .i64 s, .slice (some ⟨g, 0, none⟩) (ts.length + 1) cap, .int .i64 n] := ⟨below_new hS.1 _, hS.2.old _⟩
  have h0 : (W0.alloc (Obj.cells #[.pointer (some ⟨c, 0, none⟩)] 44)).heap[W0.heap.size]? = some (.cells #[.pointer (some ⟨c, 0, none⟩)] 44 (0, 0)) := heap_alloc_new W0 _
  have HZA := HZ0.old (Obj.cells #[.pointer (some ⟨c, 0, none⟩)] 44)
  refine hK.out _ (W0.alloc (Obj.cells #[.pointer (some ⟨c, 0, none⟩)] 44)) hS2 (fun hS1 => ?_)
  clear hK K hS hS2
  replace hS := hS1
  clear hS1
  try simp only [Act.put, List.getElem_toArray, List.getElem_cons_succ, List.getElem_cons_zero, List.setIfInBounds_toArray, List.set_cons_zero, List.set_cons_succ]
  refine wpAnyH_ready (rs := [11]) (by kernel_rfl) (by simp) ?_
  refine AllReadyH.cons rfl (fun K hK => ?_) AllReadyH.nil
  rw [if_pos (by rfl)]
  refine op_call 63 _ _ rfl (enters_of Tryz.func63 (by kernel_rfl) rfl) _ (impl_putP S s s n (by omega) _ ts [x] g cap (some ⟨W0.heap.size, 0, none⟩) 1 _ (hP.grown hS.1) hlen ?tx (by simp)) rfl ?_
  case tx =>
    intro j z hj
    match j, hj with
    | 0, hj => simp at hj; subst hj; exact ⟨_, c, rfl, (cell_of_row _ _ 0 _ _ _ h0).trans rfl, Tree.grown hS.1 _ _ hTx⟩
    | j + 1, hj => simp at hj
  rintro e w2 ⟨g2, cap2, rfl, hP2, hb2⟩
  refine ⟨_, rfl, ?_⟩
  have HZ2 := HZA.grown hb2
  have hS2 : Below w.heap.size w w2 ∧ Blk w2 w.heap.size 50 #[.int .i64 s, .slice (some ⟨g, 0, none⟩) (ts.length + 1) cap, .int .i64 n] := ⟨below_step hS.1 hb2, hS.2.grown hb2⟩
  refine hK.out _ _ hS2 (fun hS1 => ?_)
  clear hK K hS hS2
  replace hS := hS1
  clear hS1
  try simp only [Act.put, List.getElem_toArray, List.getElem_cons_succ, List.getElem_cons_zero, List.setIfInBounds_toArray, List.set_cons_zero, List.set_cons_succ]
  refine wpAnyH_ready (rs := [12]) (by kernel_rfl) (by simp) ?_
  refine AllReadyH.cons rfl (fun K hK => ?_) AllReadyH.nil
  rw [if_pos (by rfl)]
  refine op_store_Blk _ _ _ rfl (w.heap.size + 1) rfl rfl HZ2 pl_i rfl (by simp [Value.oneCell']) ?_
  refine hK.out _ _ ⟨below_setRow hS.1 (by omega) _, hS.2.setRowOther _ _ (by omega)⟩ (fun _ => ?_)
  clear hK K
  try simp only [Act.put, List.getElem_toArray, List.getElem_cons_succ, List.getElem_cons_zero, List.setIfInBounds_toArray, List.set_cons_zero, List.set_cons_succ]
  refine wpAnyH_done (by kernel_rfl) ?_ _
  go_wp2_with fail
  refine ret_Blk rfl (w.heap.size + 1) rfl (HZ2.setRow _) hu rfl pl_i rfl ⟨g2, cap2, rfl, hP2.setRow HZ2 (fun h => by have := hSB _ h; omega) _, below_setRow hS.1 (by omega) _⟩

theorem impl_ch38_1 (S : Nat → Prop) (d : List Int) (x y : Ct) (ts : List Ct) (s n g cap : Nat) (w : World) (hn : n ≤ 999) (hP : AtP w S (Ct.n2 38 d x y :: ts) g cap) (hlen : ts.length ≤ 100000) (hS : ∀ q, S q → q < w.heap.size) :
    Calls Tryz.prog 28 #[.agg #[.int .i64 s, .slice (some ⟨g, 0, none⟩) (ts.length + 1) cap, .int .i64 n], .int .i64 1] w (PutEnd S s (n + 1) ([y] ++ ts) w) := by
  obtain ⟨fs, hu⟩ := pl_u
  obtain ⟨b, hl, hT⟩ := hP.top
  have hT' := hT
  obtain ⟨g', cap', c, e, hSn, hN, hc0, hc1, hTx, hTy⟩ := hT
  have H0 := PlS.mk0 w s (ts.length + 1) g cap n
  have hl' : ∀ o p, ((w.alloc o).alloc p).cell? ⟨g, ts.length, none⟩ = some (.pointer (some ⟨b, 0, none⟩)) := fun o p => cell_grown hl (below_new (below_new (Below.refl _ _) _) _)
  have hop : ∀ o p, ((w.alloc o).alloc p).cell? ⟨b, 0, none⟩ = some (.int .u8 38) := fun o p => (hN.grown (below_new (below_new (Below.refl _ _) _) _)).op
  go_enter Tryz.func28, Tryz.ntmps28
  go_wp2_with fail
  have HZ0 := H0.z.drew
  generalize hW0 : ((w.alloc (Obj.cells #[.int .i64 s, .slice (some ⟨g, 0, none⟩) (ts.length + 1) cap, .int .i64 n] 50)).alloc (Obj.cells #[.int .i64 0, .slice none 0 0, .int .i64 0] 50)) = W1 at *
  have hSB := hS
  clear hS hW0 hl' hop
  refine wp_region_held_drew (S := fun W => Below w.heap.size w W ∧ Blk W w.heap.size 50 #[.int .i64 s, .slice (some ⟨g, 0, none⟩) (ts.length + 1) cap, .int .i64 n]) (by kernel_rfl) ?_ (fun hS => ?_)
  · exact ⟨H0.b.drew, H0.a.drew⟩
  refine wpAnyH_take (i := 0) (v := .agg #[.int .i64 s, .slice (some ⟨g, 0, none⟩) (ts.length + 1) cap, .int .i64 n]) rfl (by kernel_rfl) (by kernel_rfl) (by kernel_rfl) (fun _ _ _ h => h) (yields_Blk (by rfl) _ _ rfl w.heap.size rfl (fun _ h => h.2) hu rfl pl_i) hS ?_
  simp only [Act.put, List.getElem_toArray, List.getElem_cons_succ, List.getElem_cons_zero, List.setIfInBounds_toArray, List.set_cons_zero, List.set_cons_succ]
  refine wpAnyH_take (i := 1) (v := .pointer (some ⟨w.heap.size, 0, none⟩)) rfl (by kernel_rfl) (by kernel_rfl) (by kernel_rfl) (fun _ _ _ h => h) (Or.inl ⟨by rfl, ?_⟩) hS ?_
  · intro w hSw
    go_simp
  simp only [Act.put, List.getElem_toArray, List.getElem_cons_succ, List.getElem_cons_zero, List.setIfInBounds_toArray, List.set_cons_zero, List.set_cons_succ]
  refine wpAnyH_take (i := 2) (v := .int .i64 s) rfl (by kernel_rfl) (by kernel_rfl) (by kernel_rfl) (fun _ _ _ h => h) (Or.inl ⟨by rfl, ?_⟩) hS ?_
  · rintro W hSw
    have h7 := hSw.2.cell3.1
    clear hSw
    go_simp
  simp only [Act.put, List.getElem_toArray, List.getElem_cons_succ, List.getElem_cons_zero, List.setIfInBounds_toArray, List.set_cons_zero, List.set_cons_succ]
  refine wpAnyH_take (i := 3) (v := .pointer (some ⟨b, 0, none⟩)) rfl (by kernel_rfl) (by kernel_rfl) (by kernel_rfl) (fun _ _ _ h => h) (Or.inl ⟨by rfl, ?_⟩) hS ?_
  · intro w hSw
    go_simp
  simp only [Act.put, List.getElem_toArray, List.getElem_cons_succ, List.getElem_cons_zero, List.setIfInBounds_toArray, List.set_cons_zero, List.set_cons_succ]
  refine wpAnyH_take (i := 4) (v := .pointer (some ⟨b, 0, none⟩)) rfl (by kernel_rfl) (by kernel_rfl) (by kernel_rfl) (fun _ _ _ h => h) (Or.inl ⟨by rfl, ?_⟩) hS ?_
  · intro w hSw
    go_simp
  simp only [Act.put, List.getElem_toArray, List.getElem_cons_succ, List.getElem_cons_zero, List.setIfInBounds_toArray, List.set_cons_zero, List.set_cons_succ]
  refine wpAnyH_take (i := 5) (v := .pointer (some ⟨b, 6, none⟩)) rfl (by kernel_rfl) (by kernel_rfl) (by kernel_rfl) (fun _ _ _ h => h) (Or.inl ⟨by rfl, ?_⟩) hS ?_
  · intro w hSw
    go_simp
  simp only [Act.put, List.getElem_toArray, List.getElem_cons_succ, List.getElem_cons_zero, List.setIfInBounds_toArray, List.set_cons_zero, List.set_cons_succ]
  refine wpAnyH_take (i := 6) (v := .slice (some ⟨g', 0, none⟩) 2 cap') rfl (by kernel_rfl) (by kernel_rfl) (by kernel_rfl) (fun _ _ _ h => h) (Or.inl ⟨by rfl, ?_⟩) hS ?_
  · rintro W hSw
    have h7 := (hN.grown hSw.1).parts
    clear hSw
    go_simp
  simp only [Act.put, List.getElem_toArray, List.getElem_cons_succ, List.getElem_cons_zero, List.setIfInBounds_toArray, List.set_cons_zero, List.set_cons_succ]
  refine wpAnyH_take (i := 7) (v := .int .i64 1) rfl (by kernel_rfl) (by kernel_rfl) (by kernel_rfl) (fun _ _ _ h => h) (Or.inl ⟨by rfl, ?_⟩) hS ?_
  · intro w hSw
    go_simp
  simp only [Act.put, List.getElem_toArray, List.getElem_cons_succ, List.getElem_cons_zero, List.setIfInBounds_toArray, List.set_cons_zero, List.set_cons_succ]
  refine wpAnyH_take (i := 8) (v := .pointer (some ⟨g', 1, none⟩)) rfl (by kernel_rfl) (by kernel_rfl) (by kernel_rfl) (fun _ _ _ h => h) (Or.inl ⟨by rfl, ?_⟩) hS ?_
  · intro w hSw
    go_simp
  simp only [Act.put, List.getElem_toArray, List.getElem_cons_succ, List.getElem_cons_zero, List.setIfInBounds_toArray, List.set_cons_zero, List.set_cons_succ]
  refine wpAnyH_take (i := 9) (v := .pointer (some ⟨e, 0, none⟩)) rfl (by kernel_rfl) (by kernel_rfl) (by kernel_rfl) (fun _ _ _ h => h) (Or.inl ⟨by rfl, ?_⟩) hS ?_
  · rintro W hSw
    have h7 : W.cell? ⟨g', 1, none⟩ = some (.pointer (some ⟨e, 0, none⟩)) := cell_grown hc1 hSw.1
    clear hSw
    go_simp
  simp only [Act.put, List.getElem_toArray, List.getElem_cons_succ, List.getElem_cons_zero, List.setIfInBounds_toArray, List.set_cons_zero, List.set_cons_succ]
  generalize hW0 : W1.drew = W0 at *
  clear hW0
  refine wpAnyH_ready (rs := [10]) (by kernel_rfl) (by simp) ?_
  refine AllReadyH.cons rfl (fun K hK => ?_) AllReadyH.nil
  rw [if_pos (by rfl)]
  unfold Oper.wp
  go_simp
  have hS2 : Below w.heap.size w (W0.alloc (Obj.cells #[.pointer (some ⟨e, 0, none⟩)] 44)) ∧ Blk (W0.alloc (Obj.cells #[.pointer (some ⟨e, 0, none⟩)] 44)) w.heap.size 50 #[.int .i64 s, .slice (some ⟨g, 0, none⟩) (ts.length + 1) cap, .int .i64 n] := ⟨below_new hS.1 _, hS.2.old _⟩
  have h0 : (W0.alloc (Obj.cells #[.pointer (some ⟨e, 0, none⟩)] 44)).heap[W0.heap.size]? = some (.cells #[.pointer (some ⟨e, 0, none⟩)] 44 (0, 0)) := heap_alloc_new W0 _
  have HZA := HZ0.old (Obj.cells #[.pointer (some ⟨e, 0, none⟩)] 44)
  refine hK.out _ (W0.alloc (Obj.cells #[.pointer (some ⟨e, 0, none⟩)] 44)) hS2 (fun hS1 => ?_)
  clear hK K hS hS2
  replace hS := hS1
  clear hS1
  try simp only [Act.put, List.getElem_toArray, List.getElem_cons_succ, List.getElem_cons_zero, List.setIfInBounds_toArray, List.set_cons_zero, List.set_cons_succ]
  refine wpAnyH_ready (rs := [11]) (by kernel_rfl) (by simp) ?_
  refine AllReadyH.cons rfl (fun K hK => ?_) AllReadyH.nil
  rw [if_pos (by rfl)]
  refine op_call 63 _ _ rfl (enters_of Tryz.func63 (by kernel_rfl) rfl) _ (impl_putP S s s n (by omega) _ ts [y] g cap (some ⟨W0.heap.size, 0, none⟩) 1 _ (hP.grown hS.1) hlen ?tx (by simp)) rfl ?_
  case tx =>
    intro j z hj
    match j, hj with
    | 0, hj => simp at hj; subst hj; exact ⟨_, e, rfl, (cell_of_row _ _ 0 _ _ _ h0).trans rfl, Tree.grown hS.1 _ _ hTy⟩
    | j + 1, hj => simp at hj
  rintro e w2 ⟨g2, cap2, rfl, hP2, hb2⟩
  refine ⟨_, rfl, ?_⟩
  have HZ2 := HZA.grown hb2
  have hS2 : Below w.heap.size w w2 ∧ Blk w2 w.heap.size 50 #[.int .i64 s, .slice (some ⟨g, 0, none⟩) (ts.length + 1) cap, .int .i64 n] := ⟨below_step hS.1 hb2, hS.2.grown hb2⟩
  refine hK.out _ _ hS2 (fun hS1 => ?_)
  clear hK K hS hS2
  replace hS := hS1
  clear hS1
  try simp only [Act.put, List.getElem_toArray, List.getElem_cons_succ, List.getElem_cons_zero, List.setIfInBounds_toArray, List.set_cons_zero, List.set_cons_succ]
  refine wpAnyH_ready (rs := [12]) (by kernel_rfl) (by simp) ?_
  refine AllReadyH.cons rfl (fun K hK => ?_) AllReadyH.nil
  rw [if_pos (by rfl)]
  refine op_store_Blk _ _ _ rfl (w.heap.size + 1) rfl rfl HZ2 pl_i rfl (by simp [Value.oneCell']) ?_
  refine hK.out _ _ ⟨below_setRow hS.1 (by omega) _, hS.2.setRowOther _ _ (by omega)⟩ (fun _ => ?_)
  clear hK K
  try simp only [Act.put, List.getElem_toArray, List.getElem_cons_succ, List.getElem_cons_zero, List.setIfInBounds_toArray, List.set_cons_zero, List.set_cons_succ]
  refine wpAnyH_done (by kernel_rfl) ?_ _
  go_wp2_with fail
  refine ret_Blk rfl (w.heap.size + 1) rfl (HZ2.setRow _) hu rfl pl_i rfl ⟨g2, cap2, rfl, hP2.setRow HZ2 (fun h => by have := hSB _ h; omega) _, below_setRow hS.1 (by omega) _⟩

theorem impl_ch124_0 (S : Nat → Prop) (d : List Int) (x y : Ct) (ts : List Ct) (s n g cap : Nat) (w : World) (hn : n ≤ 999) (hP : AtP w S (Ct.n2 124 d x y :: ts) g cap) (hlen : ts.length ≤ 100000) (hS : ∀ q, S q → q < w.heap.size) :
    Calls Tryz.prog 28 #[.agg #[.int .i64 s, .slice (some ⟨g, 0, none⟩) (ts.length + 1) cap, .int .i64 n], .int .i64 0] w (PutEnd S s (n + 1) ([x] ++ ts) w) := by
  obtain ⟨fs, hu⟩ := pl_u
  obtain ⟨b, hl, hT⟩ := hP.top
  have hT' := hT
  obtain ⟨g', cap', c, e, hSn, hN, hc0, hc1, hTx, hTy⟩ := hT
  have H0 := PlS.mk0 w s (ts.length + 1) g cap n
  have hl' : ∀ o p, ((w.alloc o).alloc p).cell? ⟨g, ts.length, none⟩ = some (.pointer (some ⟨b, 0, none⟩)) := fun o p => cell_grown hl (below_new (below_new (Below.refl _ _) _) _)
  have hop : ∀ o p, ((w.alloc o).alloc p).cell? ⟨b, 0, none⟩ = some (.int .u8 124) := fun o p => (hN.grown (below_new (below_new (Below.refl _ _) _) _)).op
  go_enter Tryz.func28, Tryz.ntmps28
  go_wp2_with fail
  have HZ0 := H0.z.drew
  generalize hW0 : ((w.alloc (Obj.cells #[.int .i64 s, .slice (some ⟨g, 0, none⟩) (ts.length + 1) cap, .int .i64 n] 50)).alloc (Obj.cells #[.int .i64 0, .slice none 0 0, .int .i64 0] 50)) = W1 at *
  have hSB := hS
  clear hS hW0 hl' hop
  refine wp_region_held_drew (S := fun W => Below w.heap.size w W ∧ Blk W w.heap.size 50 #[.int .i64 s, .slice (some ⟨g, 0, none⟩) (ts.length + 1) cap, .int .i64 n]) (by kernel_rfl) ?_ (fun hS => ?_)
  · exact ⟨H0.b.drew, H0.a.drew⟩
  refine wpAnyH_take (i := 0) (v := .agg #[.int .i64 s, .slice (some ⟨g, 0, none⟩) (ts.length + 1) cap, .int .i64 n]) rfl (by kernel_rfl) (by kernel_rfl) (by kernel_rfl) (fun _ _ _ h => h) (yields_Blk (by rfl) _ _ rfl w.heap.size rfl (fun _ h => h.2) hu rfl pl_i) hS ?_
  simp only [Act.put, List.getElem_toArray, List.getElem_cons_succ, List.getElem_cons_zero, List.setIfInBounds_toArray, List.set_cons_zero, List.set_cons_succ]
  refine wpAnyH_take (i := 1) (v := .pointer (some ⟨w.heap.size, 0, none⟩)) rfl (by kernel_rfl) (by kernel_rfl) (by kernel_rfl) (fun _ _ _ h => h) (Or.inl ⟨by rfl, ?_⟩) hS ?_
  · intro w hSw
    go_simp
  simp only [Act.put, List.getElem_toArray, List.getElem_cons_succ, List.getElem_cons_zero, List.setIfInBounds_toArray, List.set_cons_zero, List.set_cons_succ]
  refine wpAnyH_take (i := 2) (v := .int .i64 s) rfl (by kernel_rfl) (by kernel_rfl) (by kernel_rfl) (fun _ _ _ h => h) (Or.inl ⟨by rfl, ?_⟩) hS ?_
  · rintro W hSw
    have h7 := hSw.2.cell3.1
    clear hSw
    go_simp
  simp only [Act.put, List.getElem_toArray, List.getElem_cons_succ, List.getElem_cons_zero, List.setIfInBounds_toArray, List.set_cons_zero, List.set_cons_succ]
  refine wpAnyH_take (i := 3) (v := .pointer (some ⟨b, 0, none⟩)) rfl (by kernel_rfl) (by kernel_rfl) (by kernel_rfl) (fun _ _ _ h => h) (Or.inl ⟨by rfl, ?_⟩) hS ?_
  · intro w hSw
    go_simp
  simp only [Act.put, List.getElem_toArray, List.getElem_cons_succ, List.getElem_cons_zero, List.setIfInBounds_toArray, List.set_cons_zero, List.set_cons_succ]
  refine wpAnyH_take (i := 4) (v := .pointer (some ⟨b, 0, none⟩)) rfl (by kernel_rfl) (by kernel_rfl) (by kernel_rfl) (fun _ _ _ h => h) (Or.inl ⟨by rfl, ?_⟩) hS ?_
  · intro w hSw
    go_simp
  simp only [Act.put, List.getElem_toArray, List.getElem_cons_succ, List.getElem_cons_zero, List.setIfInBounds_toArray, List.set_cons_zero, List.set_cons_succ]
  refine wpAnyH_take (i := 5) (v := .pointer (some ⟨b, 6, none⟩)) rfl (by kernel_rfl) (by kernel_rfl) (by kernel_rfl) (fun _ _ _ h => h) (Or.inl ⟨by rfl, ?_⟩) hS ?_
  · intro w hSw
    go_simp
  simp only [Act.put, List.getElem_toArray, List.getElem_cons_succ, List.getElem_cons_zero, List.setIfInBounds_toArray, List.set_cons_zero, List.set_cons_succ]
  refine wpAnyH_take (i := 6) (v := .slice (some ⟨g', 0, none⟩) 2 cap') rfl (by kernel_rfl) (by kernel_rfl) (by kernel_rfl) (fun _ _ _ h => h) (Or.inl ⟨by rfl, ?_⟩) hS ?_
  · rintro W hSw
    have h7 := (hN.grown hSw.1).parts
    clear hSw
    go_simp
  simp only [Act.put, List.getElem_toArray, List.getElem_cons_succ, List.getElem_cons_zero, List.setIfInBounds_toArray, List.set_cons_zero, List.set_cons_succ]
  refine wpAnyH_take (i := 7) (v := .int .i64 0) rfl (by kernel_rfl) (by kernel_rfl) (by kernel_rfl) (fun _ _ _ h => h) (Or.inl ⟨by rfl, ?_⟩) hS ?_
  · intro w hSw
    go_simp
  simp only [Act.put, List.getElem_toArray, List.getElem_cons_succ, List.getElem_cons_zero, List.setIfInBounds_toArray, List.set_cons_zero, List.set_cons_succ]
  refine wpAnyH_take (i := 8) (v := .pointer (some ⟨g', 0, none⟩)) rfl (by kernel_rfl) (by kernel_rfl) (by kernel_rfl) (fun _ _ _ h => h) (Or.inl ⟨by rfl, ?_⟩) hS ?_
  · intro w hSw
    go_simp
  simp only [Act.put, List.getElem_toArray, List.getElem_cons_succ, List.getElem_cons_zero, List.setIfInBounds_toArray, List.set_cons_zero, List.set_cons_succ]
  refine wpAnyH_take (i := 9) (v := .pointer (some ⟨c, 0, none⟩)) rfl (by kernel_rfl) (by kernel_rfl) (by kernel_rfl) (fun _ _ _ h => h) (Or.inl ⟨by rfl, ?_⟩) hS ?_
  · rintro W hSw
    have h7 : W.cell? ⟨g', 0, none⟩ = some (.pointer (some ⟨c, 0, none⟩)) := cell_grown hc0 hSw.1
    clear hSw
    go_simp
  simp only [Act.put, List.getElem_toArray, List.getElem_cons_succ, List.getElem_cons_zero, List.setIfInBounds_toArray, List.set_cons_zero, List.set_cons_succ]
  generalize hW0 : W1.drew = W0 at *
  clear hW0
  refine wpAnyH_ready (rs := [10]) (by kernel_rfl) (by simp) ?_
  refine AllReadyH.cons rfl (fun K hK => ?_) AllReadyH.nil
  rw [if_pos (by rfl)]
  unfold Oper.wp
  go_simp
  have hS2 : Below w.heap.size w (W0.alloc (Obj.cells #[.pointer (some ⟨c, 0, none⟩)] 44)) ∧ Blk (W0.alloc (Obj.cells #[.pointer (some ⟨c, 0, none⟩)] 44)) w.heap.size 50 #[.int .i64 s, .slice (some ⟨g, 0, none⟩) (ts.length + 1) cap, .int .i64 n] := ⟨below_new hS.1 _, hS.2.old _⟩
  have h0 : (W0.alloc (Obj.cells #[.pointer (some ⟨c, 0, none⟩)] 44)).heap[W0.heap.size]? = some (.cells #[.pointer (some ⟨c, 0, none⟩)] 44 (0, 0)) := heap_alloc_new W0 _
  have HZA := HZ0.old (Obj.cells #[.pointer (some ⟨c, 0, none⟩)] 44)
  refine hK.out _ (W0.alloc (Obj.cells #[.pointer (some ⟨c, 0, none⟩)] 44)) hS2 (fun hS1 => ?_)
  clear hK K hS hS2
  replace hS := hS1
  clear hS1
  try simp only [Act.put, List.getElem_toArray, List.getElem_cons_succ, List.getElem_cons_zero, List.setIfInBounds_toArray, List.set_cons_zero, List.set_cons_succ]
  refine wpAnyH_ready (rs := [11]) (by kernel_rfl) (by simp) ?_
  refine AllReadyH.cons rfl (fun K hK => ?_) AllReadyH.nil
  rw [if_pos (by rfl)]
  refine op_call 63 _ _ rfl (enters_of Tryz.func63 (by kernel_rfl) rfl) _ (impl_putP S s s n (by omega) _ ts [x] g cap (some ⟨W0.heap.size, 0, none⟩) 1 _ (hP.grown hS.1) hlen ?tx (by simp)) rfl ?_
  case tx =>
    intro j z hj
    match j, hj with
    | 0, hj => simp at hj; subst hj; exact ⟨_, c, rfl, (cell_of_row _ _ 0 _ _ _ h0).trans rfl, Tree.grown hS.1 _ _ hTx⟩
    | j + 1, hj => simp at hj
  rintro e w2 ⟨g2, cap2, rfl, hP2, hb2⟩
  refine ⟨_, rfl, ?_⟩
  have HZ2 := HZA.grown hb2
  have hS2 : Below w.heap.size w w2 ∧ Blk w2 w.heap.size 50 #[.int .i64 s, .slice (some ⟨g, 0, none⟩) (ts.length + 1) cap, .int .i64 n] := ⟨below_step hS.1 hb2, hS.2.grown hb2⟩
  refine hK.out _ _ hS2 (fun hS1 => ?_)
  clear hK K hS hS2
  replace hS := hS1
  clear hS1
  try simp only [Act.put, List.getElem_toArray, List.getElem_cons_succ, List.getElem_cons_zero, List.setIfInBounds_toArray, List.set_cons_zero, List.set_cons_succ]
  refine wpAnyH_ready (rs := [12]) (by kernel_rfl) (by simp) ?_
  refine AllReadyH.cons rfl (fun K hK => ?_) AllReadyH.nil
  rw [if_pos (by rfl)]
  refine op_store_Blk _ _ _ rfl (w.heap.size + 1) rfl rfl HZ2 pl_i rfl (by simp [Value.oneCell']) ?_
  refine hK.out _ _ ⟨below_setRow hS.1 (by omega) _, hS.2.setRowOther _ _ (by omega)⟩ (fun _ => ?_)
  clear hK K
  try simp only [Act.put, List.getElem_toArray, List.getElem_cons_succ, List.getElem_cons_zero, List.setIfInBounds_toArray, List.set_cons_zero, List.set_cons_succ]
  refine wpAnyH_done (by kernel_rfl) ?_ _
  go_wp2_with fail
  refine ret_Blk rfl (w.heap.size + 1) rfl (HZ2.setRow _) hu rfl pl_i rfl ⟨g2, cap2, rfl, hP2.setRow HZ2 (fun h => by have := hSB _ h; omega) _, below_setRow hS.1 (by omega) _⟩

theorem impl_ch124_1 (S : Nat → Prop) (d : List Int) (x y : Ct) (ts : List Ct) (s n g cap : Nat) (w : World) (hn : n ≤ 999) (hP : AtP w S (Ct.n2 124 d x y :: ts) g cap) (hlen : ts.length ≤ 100000) (hS : ∀ q, S q → q < w.heap.size) :
    Calls Tryz.prog 28 #[.agg #[.int .i64 s, .slice (some ⟨g, 0, none⟩) (ts.length + 1) cap, .int .i64 n], .int .i64 1] w (PutEnd S s (n + 1) ([y] ++ ts) w) := by
  obtain ⟨fs, hu⟩ := pl_u
  obtain ⟨b, hl, hT⟩ := hP.top
  have hT' := hT
  obtain ⟨g', cap', c, e, hSn, hN, hc0, hc1, hTx, hTy⟩ := hT
  have H0 := PlS.mk0 w s (ts.length + 1) g cap n
  have hl' : ∀ o p, ((w.alloc o).alloc p).cell? ⟨g, ts.length, none⟩ = some (.pointer (some ⟨b, 0, none⟩)) := fun o p => cell_grown hl (below_new (below_new (Below.refl _ _) _) _)
  have hop : ∀ o p, ((w.alloc o).alloc p).cell? ⟨b, 0, none⟩ = some (.int .u8 124) := fun o p => (hN.grown (below_new (below_new (Below.refl _ _) _) _)).op
  go_enter Tryz.func28, Tryz.ntmps28
  go_wp2_with fail
  have HZ0 := H0.z.drew
  generalize hW0 : ((w.alloc (Obj.cells #[.int .i64 s, .slice (some ⟨g, 0, none⟩) (ts.length + 1) cap, .int .i64 n] 50)).alloc (Obj.cells #[.int .i64 0, .slice none 0 0, .int .i64 0] 50)) = W1 at *
  have hSB := hS
  clear hS hW0 hl' hop
  refine wp_region_held_drew (S := fun W => Below w.heap.size w W ∧ Blk W w.heap.size 50 #[.int .i64 s, .slice (some ⟨g, 0, none⟩) (ts.length + 1) cap, .int .i64 n]) (by kernel_rfl) ?_ (fun hS => ?_)
  · exact ⟨H0.b.drew, H0.a.drew⟩
  refine wpAnyH_take (i := 0) (v := .agg #[.int .i64 s, .slice (some ⟨g, 0, none⟩) (ts.length + 1) cap, .int .i64 n]) rfl (by kernel_rfl) (by kernel_rfl) (by kernel_rfl) (fun _ _ _ h => h) (yields_Blk (by rfl) _ _ rfl w.heap.size rfl (fun _ h => h.2) hu rfl pl_i) hS ?_
  simp only [Act.put, List.getElem_toArray, List.getElem_cons_succ, List.getElem_cons_zero, List.setIfInBounds_toArray, List.set_cons_zero, List.set_cons_succ]
  refine wpAnyH_take (i := 1) (v := .pointer (some ⟨w.heap.size, 0, none⟩)) rfl (by kernel_rfl) (by kernel_rfl) (by kernel_rfl) (fun _ _ _ h => h) (Or.inl ⟨by rfl, ?_⟩) hS ?_
  · intro w hSw
    go_simp
  simp only [Act.put, List.getElem_toArray, List.getElem_cons_succ, List.getElem_cons_zero, List.setIfInBounds_toArray, List.set_cons_zero, List.set_cons_succ]
  refine wpAnyH_take (i := 2) (v := .int .i64 s) rfl (by kernel_rfl) (by kernel_rfl) (by kernel_rfl) (fun _ _ _ h => h) (Or.inl ⟨by rfl, ?_⟩) hS ?_
  · rintro W hSw
    have h7 := hSw.2.cell3.1
    clear hSw
    go_simp
  simp only [Act.put, List.getElem_toArray, List.getElem_cons_succ, List.getElem_cons_zero, List.setIfInBounds_toArray, List.set_cons_zero, List.set_cons_succ]
  refine wpAnyH_take (i := 3) (v := .pointer (some ⟨b, 0, none⟩)) rfl (by kernel_rfl) (by kernel_rfl) (by kernel_rfl) (fun _ _ _ h => h) (Or.inl ⟨by rfl, ?_⟩) hS ?_
  · intro w hSw
    go_simp
  simp only [Act.put, List.getElem_toArray, List.getElem_cons_succ, List.getElem_cons_zero, List.setIfInBounds_toArray, List.set_cons_zero, List.set_cons_succ]
  refine wpAnyH_take (i := 4) (v := .pointer (some ⟨b, 0, none⟩)) rfl (by kernel_rfl) (by kernel_rfl) (by kernel_rfl) (fun _ _ _ h => h) (Or.inl ⟨by rfl, ?_⟩) hS ?_
  · intro w hSw
    go_simp
  simp only [Act.put, List.getElem_toArray, List.getElem_cons_succ, List.getElem_cons_zero, List.setIfInBounds_toArray, List.set_cons_zero, List.set_cons_succ]
  refine wpAnyH_take (i := 5) (v := .pointer (some ⟨b, 6, none⟩)) rfl (by kernel_rfl) (by kernel_rfl) (by kernel_rfl) (fun _ _ _ h => h) (Or.inl ⟨by rfl, ?_⟩) hS ?_
  · intro w hSw
    go_simp
  simp only [Act.put, List.getElem_toArray, List.getElem_cons_succ, List.getElem_cons_zero, List.setIfInBounds_toArray, List.set_cons_zero, List.set_cons_succ]
  refine wpAnyH_take (i := 6) (v := .slice (some ⟨g', 0, none⟩) 2 cap') rfl (by kernel_rfl) (by kernel_rfl) (by kernel_rfl) (fun _ _ _ h => h) (Or.inl ⟨by rfl, ?_⟩) hS ?_
  · rintro W hSw
    have h7 := (hN.grown hSw.1).parts
    clear hSw
    go_simp
  simp only [Act.put, List.getElem_toArray, List.getElem_cons_succ, List.getElem_cons_zero, List.setIfInBounds_toArray, List.set_cons_zero, List.set_cons_succ]
  refine wpAnyH_take (i := 7) (v := .int .i64 1) rfl (by kernel_rfl) (by kernel_rfl) (by kernel_rfl) (fun _ _ _ h => h) (Or.inl ⟨by rfl, ?_⟩) hS ?_
  · intro w hSw
    go_simp
  simp only [Act.put, List.getElem_toArray, List.getElem_cons_succ, List.getElem_cons_zero, List.setIfInBounds_toArray, List.set_cons_zero, List.set_cons_succ]
  refine wpAnyH_take (i := 8) (v := .pointer (some ⟨g', 1, none⟩)) rfl (by kernel_rfl) (by kernel_rfl) (by kernel_rfl) (fun _ _ _ h => h) (Or.inl ⟨by rfl, ?_⟩) hS ?_
  · intro w hSw
    go_simp
  simp only [Act.put, List.getElem_toArray, List.getElem_cons_succ, List.getElem_cons_zero, List.setIfInBounds_toArray, List.set_cons_zero, List.set_cons_succ]
  refine wpAnyH_take (i := 9) (v := .pointer (some ⟨e, 0, none⟩)) rfl (by kernel_rfl) (by kernel_rfl) (by kernel_rfl) (fun _ _ _ h => h) (Or.inl ⟨by rfl, ?_⟩) hS ?_
  · rintro W hSw
    have h7 : W.cell? ⟨g', 1, none⟩ = some (.pointer (some ⟨e, 0, none⟩)) := cell_grown hc1 hSw.1
    clear hSw
    go_simp
  simp only [Act.put, List.getElem_toArray, List.getElem_cons_succ, List.getElem_cons_zero, List.setIfInBounds_toArray, List.set_cons_zero, List.set_cons_succ]
  generalize hW0 : W1.drew = W0 at *
  clear hW0
  refine wpAnyH_ready (rs := [10]) (by kernel_rfl) (by simp) ?_
  refine AllReadyH.cons rfl (fun K hK => ?_) AllReadyH.nil
  rw [if_pos (by rfl)]
  unfold Oper.wp
  go_simp
  have hS2 : Below w.heap.size w (W0.alloc (Obj.cells #[.pointer (some ⟨e, 0, none⟩)] 44)) ∧ Blk (W0.alloc (Obj.cells #[.pointer (some ⟨e, 0, none⟩)] 44)) w.heap.size 50 #[.int .i64 s, .slice (some ⟨g, 0, none⟩) (ts.length + 1) cap, .int .i64 n] := ⟨below_new hS.1 _, hS.2.old _⟩
  have h0 : (W0.alloc (Obj.cells #[.pointer (some ⟨e, 0, none⟩)] 44)).heap[W0.heap.size]? = some (.cells #[.pointer (some ⟨e, 0, none⟩)] 44 (0, 0)) := heap_alloc_new W0 _
  have HZA := HZ0.old (Obj.cells #[.pointer (some ⟨e, 0, none⟩)] 44)
  refine hK.out _ (W0.alloc (Obj.cells #[.pointer (some ⟨e, 0, none⟩)] 44)) hS2 (fun hS1 => ?_)
  clear hK K hS hS2
  replace hS := hS1
  clear hS1
  try simp only [Act.put, List.getElem_toArray, List.getElem_cons_succ, List.getElem_cons_zero, List.setIfInBounds_toArray, List.set_cons_zero, List.set_cons_succ]
  refine wpAnyH_ready (rs := [11]) (by kernel_rfl) (by simp) ?_
  refine AllReadyH.cons rfl (fun K hK => ?_) AllReadyH.nil
  rw [if_pos (by rfl)]
  refine op_call 63 _ _ rfl (enters_of Tryz.func63 (by kernel_rfl) rfl) _ (impl_putP S s s n (by omega) _ ts [y] g cap (some ⟨W0.heap.size, 0, none⟩) 1 _ (hP.grown hS.1) hlen ?tx (by simp)) rfl ?_
  case tx =>
    intro j z hj
    match j, hj with
    | 0, hj => simp at hj; subst hj; exact ⟨_, e, rfl, (cell_of_row _ _ 0 _ _ _ h0).trans rfl, Tree.grown hS.1 _ _ hTy⟩
    | j + 1, hj => simp at hj
  rintro e w2 ⟨g2, cap2, rfl, hP2, hb2⟩
  refine ⟨_, rfl, ?_⟩
  have HZ2 := HZA.grown hb2
  have hS2 : Below w.heap.size w w2 ∧ Blk w2 w.heap.size 50 #[.int .i64 s, .slice (some ⟨g, 0, none⟩) (ts.length + 1) cap, .int .i64 n] := ⟨below_step hS.1 hb2, hS.2.grown hb2⟩
  refine hK.out _ _ hS2 (fun hS1 => ?_)
  clear hK K hS hS2
  replace hS := hS1
  clear hS1
  try simp only [Act.put, List.getElem_toArray, List.getElem_cons_succ, List.getElem_cons_zero, List.setIfInBounds_toArray, List.set_cons_zero, List.set_cons_succ]
  refine wpAnyH_ready (rs := [12]) (by kernel_rfl) (by simp) ?_
  refine AllReadyH.cons rfl (fun K hK => ?_) AllReadyH.nil
  rw [if_pos (by rfl)]
  refine op_store_Blk _ _ _ rfl (w.heap.size + 1) rfl rfl HZ2 pl_i rfl (by simp [Value.oneCell']) ?_
  refine hK.out _ _ ⟨below_setRow hS.1 (by omega) _, hS.2.setRowOther _ _ (by omega)⟩ (fun _ => ?_)
  clear hK K
  try simp only [Act.put, List.getElem_toArray, List.getElem_cons_succ, List.getElem_cons_zero, List.setIfInBounds_toArray, List.set_cons_zero, List.set_cons_succ]
  refine wpAnyH_done (by kernel_rfl) ?_ _
  go_wp2_with fail
  refine ret_Blk rfl (w.heap.size + 1) rfl (HZ2.setRow _) hu rfl pl_i rfl ⟨g2, cap2, rfl, hP2.setRow HZ2 (fun h => by have := hSB _ h; omega) _, below_setRow hS.1 (by omega) _⟩

theorem impl_choose (S : Nat → Prop) (t : Ct) (ht : t.WF) (ts : List Ct) (s : Nat) (k : Nat) (hp : t.next s = .pick) (hk : k ∈ t.opts s) (n g cap : Nat) (w : World) (hn : n ≤ 999) (hP : AtP w S (t :: ts) g cap) (hlen : ts.length ≤ 100000) (hS : ∀ q, S q → q < w.heap.size) :
    Calls Tryz.prog 28 #[.agg #[.int .i64 s, .slice (some ⟨g, 0, none⟩) (ts.length + 1) cap, .int .i64 n], .int .i64 k] w (PutEnd S ((t.chose s k).1 : Nat) (n + 1) ((t.chose s k).2 ++ ts) w) := by
  rcases next_pick ht hp with ⟨d, rfl, hd⟩ | ⟨d, rfl, hd⟩ | ⟨x, rfl⟩ | ⟨x, rfl⟩ | ⟨x, y, rfl⟩ | ⟨x, y, rfl⟩
  · exact impl_ch65 S d ts s n g cap k w hn hP hlen hS
  · exact impl_ch68 S d ts s n g cap k w hn hP hlen hS
  · have h2 : k = 0 ∨ k = 1 := by simpa [Ct.opts] using hk
    rcases h2 with rfl | rfl
    · exact impl_ch42_0 S [] x ts s n g cap w hn hP hlen hS
    · exact impl_ch42_1 S [] x ts s n g cap w hn hP hlen hS
  · have h2 : k = 0 ∨ k = 1 := by simpa [Ct.opts] using hk
    rcases h2 with rfl | rfl
    · exact impl_ch43_0 S [] x ts s n g cap w hn hP hlen hS
    · exact impl_ch43_1 S [] x ts s n g cap w hn hP hlen hS
  · have h2 : k = 0 ∨ k = 1 := by simpa [Ct.opts] using hk
    rcases h2 with rfl | rfl
    · exact impl_ch38_0 S [] x y ts s n g cap w hn hP hlen hS
    · exact impl_ch38_1 S [] x y ts s n g cap w hn hP hlen hS
  · have h2 : k = 0 ∨ k = 1 := by simpa [Ct.opts] using hk
    rcases h2 with rfl | rfl
    · exact impl_ch124_0 S [] x y ts s n g cap w hn hP hlen hS
    · exact impl_ch124_1 S [] x y ts s n g cap w hn hP hlen hS
end Go.Proofs.YtaeibhpkcikaaaaGreatDoor
