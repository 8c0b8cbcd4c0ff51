/- Plays: the reference's choices made (printed by mk6c.py). -/
import Derived.Test.YtaeibhpkcikaaaaGreatDoorSpP4
namespace Go.Proofs.YtaeibhpkcikaaaaGreatDoor
set_option linter.unusedVariables false
set_option linter.unusedSimpArgs false
open Go.RowKit Go.Shelf
set_option maxRecDepth 100000
set_option maxHeartbeats 1000000

theorem Blk.set1 {w : World} {b : Nat} {t : TypeId} {x y : Value} (h : Blk w b t #[x, y]) (v : Value) : Blk (w.setCell ⟨b, 1, none⟩ v) b t #[x, v] := ⟨by rw [heap_setCell_same w b 1 _ _ _ h.eq]; rfl⟩
theorem Blk.setCellOther {w : World} {b : Nat} {t : TypeId} {c : Array Value} (h : Blk w b t c) (g i : Nat) (v : Value) (hne : b ≠ g) : Blk (w.setCell ⟨g, i, none⟩ v) b t c := ⟨(heap_setCell_other w ⟨g, i, none⟩ b v hne).trans h.eq⟩
/-- what a choice comes to -/
def Chosen (t : Ct) (s k : Nat) (ts : List Ct) (w : World) (e : Ending) (w' : World) : Prop := Below w.heap.size w w' ∧
  ∃ g2 cap2, e = .returned (.agg #[.slice (some ⟨g2, 0, none⟩) ((t.chose s k).2 ++ ts).length cap2, .int .i64 ((t.chose s k).1 : Nat)]) ∧ Todo w' g2 ((t.chose s k).2 ++ ts) ∧ ((t.chose s k).2 ++ ts).length ≤ cap2

theorem spec_ch42_0 (d : List Int) (x : Ct) (hnd : d.length = 0) (ts : List Ct) (s : Nat) (hs : s < 4) (g cap : Nat) (w : World) (ht : (Ct.n1 42 d x).WF) (hlen : (Ct.n1 42 d x).len ≤ 200) (hT : Todo w g (Ct.n1 42 d x :: ts)) (hn : ts.length ≤ 100000) (hcap : ts.length + 1 ≤ cap) :
    Calls Tryz.prog 19 #[.agg #[.slice (some ⟨g, 0, none⟩) (ts.length + 1) cap, .int .i64 s], .int .u8 48] w (Chosen (Ct.n1 42 d x) s 0 ts w) := by
  obtain ⟨fs, hu⟩ := at_u
  have hl := hT.last
  have hr := hT.rest
  have hop := op_text (Ct.n1 42 d x)
  have hb0 : ((bt (Ct.n1 42 d x).text 0).toNat : Int) = 42 := by rw [hop]; rfl
  have hs0 : 0 < (Ct.n1 42 d x).text.size := by rw [Ct.text_size]; exact (Ct.n1 42 d x).len_pos
  have hs1 : 1 + 0 ≤ (Ct.n1 42 d x).text.size := by rw [Ct.text_size]; have := (Ct.n1 42 d x).len_head; rw [show (Ct.n1 42 d x).ds.length = 0 from hnd] at this; exact this
  have HPARTS : ∀ W : World, Calls Tryz.prog 52 #[.string (Ct.n1 42 d x).text] W fun e w' => (∃ g cap, e = .returned (.slice (some ⟨g, 0, none⟩) (Ct.n1 42 d x).parts.length cap) ∧ TextsAt w' g (Ct.n1 42 d x).parts) ∧ Below W.heap.size W w' := fun W => spec_l5Parts (Ct.n1 42 d x) ht hlen W
  have HM0 := MvS.mk0 w ts.length g cap s
  have HLN : Hid (ts.length = ts.length) := rfl
  clear hop
  generalize hN : ts.length = n at *
  generalize hTX : (Ct.n1 42 d x).text = T at *
  have HTX := Lib.hid hTX
  clear hTX
  have hs2 : 1 + 0 ≤ T.size → 1 ≤ 0 → ¬ ((T.size : Int) ≤ 1) := fun _ _ => by omega
  have hs3 := hs2 hs1
  clear hs2
  have hl' : ∀ o p, ((w.alloc o).alloc p).cell? ⟨g, n, none⟩ = some (.string T) := fun o p => cell_grown hl (below_new (below_new (Below.refl _ _) _) _)
  go_enter Tryz.func19, Tryz.ntmps19
  go_wp2_with fail
  go_region
  generalize (((w.alloc (Obj.cells #[.slice (some ⟨g, 0, none⟩) (n + 1) cap, .int .i64 s] 38)).alloc (Obj.cells #[.slice none 0 0, .int .i64 0] 38)).alloc (Obj.cells #[.slice (some ⟨g, 0, none⟩) n cap, .int .i64 s] 38)).drew = W0 at *
  go_wp2_with fail
  refine (HPARTS _).mono ?_
  rintro e w1 ⟨⟨g', cap', rfl, hg'⟩, hb1⟩
  have HM := HM0.grown hb1
  clear HPARTS HM0
  have e5 : (Ct.n1 42 d x).parts.length = 1 := rfl
  rw [e5]
  go_wp2_with (first
    | (refine wp_store_Blk rfl _ _ _ rfl (w.heap.size + 1) rfl rfl HM.z at_i rfl (by simp [Value.oneCell']) ?_)
    | (refine wp_load_Blk rfl _ _ rfl (w.heap.size + 1 + 1) rfl HM.r hu rfl at_i ?_))
  refine ret_Blk rfl (w.heap.size + 1) rfl (HM.z.setRow _) hu rfl at_i rfl ⟨below_setRow HM.b (by omega) _, ?_⟩
  refine ⟨g, cap, by first | rfl | (rw [← hN]; rfl), ⟨fun j x hj => ?_⟩, by show ts.length ≤ cap; omega⟩
  exact cell_kept (cell_grown_b (hr.lies j x hj) HM.b) (setRow_other _ _ _ _ (by have := block_lt_of_cell (hr.lies j x hj); show g ≠ _; have : g < w.heap.size := this; omega))

theorem spec_ch42_1 (d : List Int) (x : Ct) (hnd : d.length = 0) (ts : List Ct) (s : Nat) (hs : s < 4) (g cap : Nat) (w : World) (ht : (Ct.n1 42 d x).WF) (hlen : (Ct.n1 42 d x).len ≤ 200) (hT : Todo w g (Ct.n1 42 d x :: ts)) (hn : ts.length ≤ 100000) (hcap : ts.length + 1 ≤ cap) :
    Calls Tryz.prog 19 #[.agg #[.slice (some ⟨g, 0, none⟩) (ts.length + 1) cap, .int .i64 s], .int .u8 49] w (Chosen (Ct.n1 42 d x) s 1 ts w) := by
  obtain ⟨fs, hu⟩ := at_u
  have hl := hT.last
  have hr := hT.rest
  have hop := op_text (Ct.n1 42 d x)
  have hb0 : ((bt (Ct.n1 42 d x).text 0).toNat : Int) = 42 := by rw [hop]; rfl
  have hs0 : 0 < (Ct.n1 42 d x).text.size := by rw [Ct.text_size]; exact (Ct.n1 42 d x).len_pos
  have hs1 : 1 + 0 ≤ (Ct.n1 42 d x).text.size := by rw [Ct.text_size]; have := (Ct.n1 42 d x).len_head; rw [show (Ct.n1 42 d x).ds.length = 0 from hnd] at this; exact this
  have HPARTS : ∀ W : World, Calls Tryz.prog 52 #[.string (Ct.n1 42 d x).text] W fun e w' => (∃ g cap, e = .returned (.slice (some ⟨g, 0, none⟩) (Ct.n1 42 d x).parts.length cap) ∧ TextsAt w' g (Ct.n1 42 d x).parts) ∧ Below W.heap.size W w' := fun W => spec_l5Parts (Ct.n1 42 d x) ht hlen W
  have HM0 := MvS.mk0 w ts.length g cap s
  have HLN : Hid (ts.length = ts.length) := rfl
  clear hop
  generalize hN : ts.length = n at *
  generalize hTX : (Ct.n1 42 d x).text = T at *
  have HTX := Lib.hid hTX
  clear hTX
  have hs2 : 1 + 0 ≤ T.size → 1 ≤ 0 → ¬ ((T.size : Int) ≤ 1) := fun _ _ => by omega
  have hs3 := hs2 hs1
  clear hs2
  have hl' : ∀ o p, ((w.alloc o).alloc p).cell? ⟨g, n, none⟩ = some (.string T) := fun o p => cell_grown hl (below_new (below_new (Below.refl _ _) _) _)
  go_enter Tryz.func19, Tryz.ntmps19
  go_wp2_with fail
  go_region
  generalize (((w.alloc (Obj.cells #[.slice (some ⟨g, 0, none⟩) (n + 1) cap, .int .i64 s] 38)).alloc (Obj.cells #[.slice none 0 0, .int .i64 0] 38)).alloc (Obj.cells #[.slice (some ⟨g, 0, none⟩) n cap, .int .i64 s] 38)).drew = W0 at *
  go_wp2_with fail
  refine (HPARTS _).mono ?_
  rintro e w1 ⟨⟨g', cap', rfl, hg'⟩, hb1⟩
  have HM := HM0.grown hb1
  clear HPARTS HM0
  have e5 : (Ct.n1 42 d x).parts.length = 1 := rfl
  rw [e5]
  have c0 := hg' 0 x rfl
  have hne : g' ≠ w.heap.size + 1 := by rintro rfl; have h := HM.z.cell2.1; rw [c0] at h; cases h
  go_wp2_with fail
  refine wp_region_held_drew (S := fun W => Blk W (w.heap.size + 1 + 1) 38 #[.slice (some ⟨g, 0, none⟩) n cap, .int .i64 s] ∧ W.cell? ⟨g', 0, none⟩ = some (.string x.text)) (by kernel_rfl) ?_ (fun hS => ?_)
  · exact ⟨HM.r.drew, c0⟩
  refine wpAnyH_take (i := 0) (v := .agg #[.slice (some ⟨g, 0, none⟩) n cap, .int .i64 s]) rfl (by kernel_rfl) (by kernel_rfl) (by kernel_rfl) (fun _ _ _ h => h) (yields_Blk (by rfl) _ _ rfl (w.heap.size + 1 + 1) rfl (fun _ h => h.1) hu rfl at_i) hS ?_
  simp only [Act.put, List.getElem_toArray, List.getElem_cons_succ, List.getElem_cons_zero, List.setIfInBounds_toArray, List.set_cons_zero, List.set_cons_succ]
  refine wpAnyH_take (i := 1) (v := .string T) rfl (by kernel_rfl) (by kernel_rfl) (by kernel_rfl) (fun _ _ _ h => h) (Or.inl ⟨by rfl, ?_⟩) hS ?_
  · intro w hSw
    go_simp
  simp only [Act.put, List.getElem_toArray, List.getElem_cons_succ, List.getElem_cons_zero, List.setIfInBounds_toArray, List.set_cons_zero, List.set_cons_succ]
  refine wpAnyH_take (i := 2) (v := .slice (some ⟨g', 0, none⟩) 1 cap') rfl (by kernel_rfl) (by kernel_rfl) (by kernel_rfl) (fun _ _ _ h => h) (Or.inl ⟨by rfl, ?_⟩) hS ?_
  · intro w hSw
    go_simp
  simp only [Act.put, List.getElem_toArray, List.getElem_cons_succ, List.getElem_cons_zero, List.setIfInBounds_toArray, List.set_cons_zero, List.set_cons_succ]
  refine wpAnyH_take (i := 3) (v := .pointer (some ⟨g', 0, none⟩)) rfl (by kernel_rfl) (by kernel_rfl) (by kernel_rfl) (fun _ _ _ h => h) (Or.inl ⟨by rfl, ?_⟩) hS ?_
  · intro w hSw
    go_simp
  simp only [Act.put, List.getElem_toArray, List.getElem_cons_succ, List.getElem_cons_zero, List.setIfInBounds_toArray, List.set_cons_zero, List.set_cons_succ]
  refine wpAnyH_take (i := 4) (v := .string x.text) rfl (by kernel_rfl) (by kernel_rfl) (by kernel_rfl) (fun _ _ _ h => h) (Or.inl ⟨by rfl, ?_⟩) hS ?_
  · rintro w ⟨c9, c0⟩
    go_simp
  simp only [Act.put, List.getElem_toArray, List.getElem_cons_succ, List.getElem_cons_zero, List.setIfInBounds_toArray, List.set_cons_zero, List.set_cons_succ]
  have HMd := HM.drew
  have hbA : Below w1.drew.heap.size w1.drew (w1.drew.alloc (Obj.cells #[.string T, .string x.text] 9)) := below_new (Below.refl _ _) _
  have hP := fun (W : World) (hA : Todo W g ts) (hB : TextsAt W w1.heap.size [x, Ct.n1 42 d x].reverse) (hC : 0 < [x, Ct.n1 42 d x].length → w1.heap.size < W.heap.size) => spec_l6Push ts [x, Ct.n1 42 d x] s g cap w1.heap.size 2 W hA hB (by omega) (by simp) hC
  simp only [hN] at hP
  have hTA : Todo (w1.drew.alloc (Obj.cells #[.string T, .string x.text] 9)) g ts := ((hr.grown HM.b).drew).grown hbA
  have h0 : (w1.drew.alloc (Obj.cells #[.string T, .string x.text] 9)).heap[w1.heap.size]? = some (.cells #[.string T, .string x.text] 9 (0, 0)) := heap_alloc_new w1.drew _
  refine wpAnyH_ready (rs := [5]) (by kernel_rfl) (by simp) ?_
  refine AllReadyH.cons rfl (fun K hK => ?_) AllReadyH.nil
  rw [if_pos (by rfl)]
  unfold Oper.wp
  go_simp
  refine hK.out _ (w1.drew.alloc (Obj.cells #[.string T, .string x.text] 9)) ?_ (fun hS1 => ?_)
  · exact ⟨hS.1.grown hbA, cell_grown hS.2 hbA⟩
  clear hK K
  replace hS := hS1
  clear hS1
  try simp only [Act.put, List.getElem_toArray, List.getElem_cons_succ, List.getElem_cons_zero, List.setIfInBounds_toArray, List.set_cons_zero, List.set_cons_succ]
  refine wpAnyH_ready (rs := [6]) (by kernel_rfl) (by simp) ?_
  refine AllReadyH.cons rfl (fun K hK => ?_) AllReadyH.nil
  rw [if_pos (by rfl)]
  refine op_call 53 _ _ rfl (enters_of Tryz.func53 (by kernel_rfl) rfl) _ (hP (w1.drew.alloc (Obj.cells #[.string T, .string x.text] 9)) hTA ?tx (by simp)) rfl ?_
  case tx =>
    intro j z hj
    obtain rfl | rfl | h2 : j = 0 ∨ j = 1 ∨ 2 ≤ j := by omega
    · simp at hj; subst hj; rw [HTX.out]; exact (cell_of_row _ _ 0 _ _ _ h0).trans rfl
    · simp at hj; subst hj; exact (cell_of_row _ _ 1 _ _ _ h0).trans rfl
    · rw [List.getElem?_eq_none (by simp; omega)] at hj; cases hj
  rintro e w2 ⟨g2, cap2, rfl, hT2, hc2, hg2, hb2⟩
  have HM2 := (HMd.grown hbA).grown hb2
  refine ⟨_, rfl, ?_⟩
  refine hK.out _ _ ?_ (fun hS1 => ?_)
  · exact ⟨hS.1.grown hb2, cell_grown hS.2 hb2⟩
  clear hK K
  replace hS := hS1
  clear hS1
  try simp only [Act.put, List.getElem_toArray, List.getElem_cons_succ, List.getElem_cons_zero, List.setIfInBounds_toArray, List.set_cons_zero, List.set_cons_succ]
  refine wpAnyH_ready (rs := [7]) (by kernel_rfl) (by simp) ?_
  refine AllReadyH.cons rfl (fun K hK => ?_) AllReadyH.nil
  rw [if_pos (by rfl)]
  refine op_store_Blk _ _ _ rfl (w.heap.size + 1) rfl rfl HM2.z at_i rfl (by simp [Value.oneCell']) ?_
  refine hK.out _ _ ?_ (fun hS1 => ?_)
  · exact ⟨hS.1.setRowOther _ _ (by omega), cell_kept hS.2 (setRow_other _ _ _ _ hne)⟩
  clear hK K
  replace hS := hS1
  clear hS1
  try simp only [Act.put, List.getElem_toArray, List.getElem_cons_succ, List.getElem_cons_zero, List.setIfInBounds_toArray, List.set_cons_zero, List.set_cons_succ]
  refine wpAnyH_done (by kernel_rfl) ?_ _
  go_wp2_with fail
  refine ret_Blk rfl (w.heap.size + 1) rfl (HM2.z.setRow _) hu rfl at_i rfl ⟨below_setRow HM2.b (by omega) _, ?_⟩
  show ∃ g2 cap2, _ ∧ _ ∧ _
  refine ⟨g2, cap2, by first | rfl | (rw [← hN]; rfl), ⟨fun j z hj => ?_⟩, hc2⟩
  have hzl := HM.z.lt
  have hg3 : w1.heap.size ≤ g2 := by have h := hg2; simp at h; omega
  exact cell_kept (hT2.lies j z hj) (setRow_other _ _ _ _ (by omega))

theorem spec_ch43_0 (d : List Int) (x : Ct) (hnd : d.length = 0) (ts : List Ct) (s : Nat) (hs : s < 4) (g cap : Nat) (w : World) (ht : (Ct.n1 43 d x).WF) (hlen : (Ct.n1 43 d x).len ≤ 200) (hT : Todo w g (Ct.n1 43 d x :: ts)) (hn : ts.length ≤ 100000) (hcap : ts.length + 1 ≤ cap) :
    Calls Tryz.prog 19 #[.agg #[.slice (some ⟨g, 0, none⟩) (ts.length + 1) cap, .int .i64 s], .int .u8 48] w (Chosen (Ct.n1 43 d x) s 0 ts w) := by
  obtain ⟨fs, hu⟩ := at_u
  have hl := hT.last
  have hr := hT.rest
  have hop := op_text (Ct.n1 43 d x)
  have hb0 : ((bt (Ct.n1 43 d x).text 0).toNat : Int) = 43 := by rw [hop]; rfl
  have hs0 : 0 < (Ct.n1 43 d x).text.size := by rw [Ct.text_size]; exact (Ct.n1 43 d x).len_pos
  have hs1 : 1 + 0 ≤ (Ct.n1 43 d x).text.size := by rw [Ct.text_size]; have := (Ct.n1 43 d x).len_head; rw [show (Ct.n1 43 d x).ds.length = 0 from hnd] at this; exact this
  have HPARTS : ∀ W : World, Calls Tryz.prog 52 #[.string (Ct.n1 43 d x).text] W fun e w' => (∃ g cap, e = .returned (.slice (some ⟨g, 0, none⟩) (Ct.n1 43 d x).parts.length cap) ∧ TextsAt w' g (Ct.n1 43 d x).parts) ∧ Below W.heap.size W w' := fun W => spec_l5Parts (Ct.n1 43 d x) ht hlen W
  have HM0 := MvS.mk0 w ts.length g cap s
  have HLN : Hid (ts.length = ts.length) := rfl
  clear hop
  generalize hN : ts.length = n at *
  generalize hTX : (Ct.n1 43 d x).text = T at *
  have HTX := Lib.hid hTX
  clear hTX
  have hs2 : 1 + 0 ≤ T.size → 1 ≤ 0 → ¬ ((T.size : Int) ≤ 1) := fun _ _ => by omega
  have hs3 := hs2 hs1
  clear hs2
  have hl' : ∀ o p, ((w.alloc o).alloc p).cell? ⟨g, n, none⟩ = some (.string T) := fun o p => cell_grown hl (below_new (below_new (Below.refl _ _) _) _)
  go_enter Tryz.func19, Tryz.ntmps19
  go_wp2_with fail
  go_region
  generalize (((w.alloc (Obj.cells #[.slice (some ⟨g, 0, none⟩) (n + 1) cap, .int .i64 s] 38)).alloc (Obj.cells #[.slice none 0 0, .int .i64 0] 38)).alloc (Obj.cells #[.slice (some ⟨g, 0, none⟩) n cap, .int .i64 s] 38)).drew = W0 at *
  go_wp2_with fail
  refine (HPARTS _).mono ?_
  rintro e w1 ⟨⟨g', cap', rfl, hg'⟩, hb1⟩
  have HM := HM0.grown hb1
  clear HPARTS HM0
  have e5 : (Ct.n1 43 d x).parts.length = 1 := rfl
  rw [e5]
  go_wp2_with (first
    | (refine wp_store_Blk rfl _ _ _ rfl (w.heap.size + 1) rfl rfl HM.z at_i rfl (by simp [Value.oneCell']) ?_)
    | (refine wp_load_Blk rfl _ _ rfl (w.heap.size + 1 + 1) rfl HM.r hu rfl at_i ?_))
  refine ret_Blk rfl (w.heap.size + 1) rfl (HM.z.setRow _) hu rfl at_i rfl ⟨below_setRow HM.b (by omega) _, ?_⟩
  refine ⟨g, cap, by first | rfl | (rw [← hN]; rfl), ⟨fun j x hj => ?_⟩, by show ts.length ≤ cap; omega⟩
  exact cell_kept (cell_grown_b (hr.lies j x hj) HM.b) (setRow_other _ _ _ _ (by have := block_lt_of_cell (hr.lies j x hj); show g ≠ _; have : g < w.heap.size := this; omega))

theorem spec_ch43_1 (d : List Int) (x : Ct) (hnd : d.length = 0) (ts : List Ct) (s : Nat) (hs : s < 4) (g cap : Nat) (w : World) (ht : (Ct.n1 43 d x).WF) (hlen : (Ct.n1 43 d x).len ≤ 200) (hT : Todo w g (Ct.n1 43 d x :: ts)) (hn : ts.length ≤ 100000) (hcap : ts.length + 1 ≤ cap) :
    Calls Tryz.prog 19 #[.agg #[.slice (some ⟨g, 0, none⟩) (ts.length + 1) cap, .int .i64 s], .int .u8 49] w (Chosen (Ct.n1 43 d x) s 1 ts w) := by
  obtain ⟨fs, hu⟩ := at_u
  have hl := hT.last
  have hr := hT.rest
  have hop := op_text (Ct.n1 43 d x)
  have hb0 : ((bt (Ct.n1 43 d x).text 0).toNat : Int) = 43 := by rw [hop]; rfl
  have hs0 : 0 < (Ct.n1 43 d x).text.size := by rw [Ct.text_size]; exact (Ct.n1 43 d x).len_pos
  have hs1 : 1 + 0 ≤ (Ct.n1 43 d x).text.size := by rw [Ct.text_size]; have := (Ct.n1 43 d x).len_head; rw [show (Ct.n1 43 d x).ds.length = 0 from hnd] at this; exact this
  have HPARTS : ∀ W : World, Calls Tryz.prog 52 #[.string (Ct.n1 43 d x).text] W fun e w' => (∃ g cap, e = .returned (.slice (some ⟨g, 0, none⟩) (Ct.n1 43 d x).parts.length cap) ∧ TextsAt w' g (Ct.n1 43 d x).parts) ∧ Below W.heap.size W w' := fun W => spec_l5Parts (Ct.n1 43 d x) ht hlen W
  have HM0 := MvS.mk0 w ts.length g cap s
  have HLN : Hid (ts.length = ts.length) := rfl
  clear hop
  generalize hN : ts.length = n at *
  generalize hTX : (Ct.n1 43 d x).text = T at *
  have HTX := Lib.hid hTX
  clear hTX
  have hs2 : 1 + 0 ≤ T.size → 1 ≤ 0 → ¬ ((T.size : Int) ≤ 1) := fun _ _ => by omega
  have hs3 := hs2 hs1
  clear hs2
  have hl' : ∀ o p, ((w.alloc o).alloc p).cell? ⟨g, n, none⟩ = some (.string T) := fun o p => cell_grown hl (below_new (below_new (Below.refl _ _) _) _)
  go_enter Tryz.func19, Tryz.ntmps19
  go_wp2_with fail
  go_region
  generalize (((w.alloc (Obj.cells #[.slice (some ⟨g, 0, none⟩) (n + 1) cap, .int .i64 s] 38)).alloc (Obj.cells #[.slice none 0 0, .int .i64 0] 38)).alloc (Obj.cells #[.slice (some ⟨g, 0, none⟩) n cap, .int .i64 s] 38)).drew = W0 at *
  go_wp2_with fail
  refine (HPARTS _).mono ?_
  rintro e w1 ⟨⟨g', cap', rfl, hg'⟩, hb1⟩
  have HM := HM0.grown hb1
  clear HPARTS HM0
  have e5 : (Ct.n1 43 d x).parts.length = 1 := rfl
  rw [e5]
  have c0 := hg' 0 x rfl
  have hne : g' ≠ w.heap.size + 1 := by rintro rfl; have h := HM.z.cell2.1; rw [c0] at h; cases h
  go_wp2_with fail
  refine wp_region_held_drew (S := fun W => Blk W (w.heap.size + 1 + 1) 38 #[.slice (some ⟨g, 0, none⟩) n cap, .int .i64 s] ∧ W.cell? ⟨g', 0, none⟩ = some (.string x.text)) (by kernel_rfl) ?_ (fun hS => ?_)
  · exact ⟨HM.r.drew, c0⟩
  refine wpAnyH_take (i := 0) (v := .agg #[.slice (some ⟨g, 0, none⟩) n cap, .int .i64 s]) rfl (by kernel_rfl) (by kernel_rfl) (by kernel_rfl) (fun _ _ _ h => h) (yields_Blk (by rfl) _ _ rfl (w.heap.size + 1 + 1) rfl (fun _ h => h.1) hu rfl at_i) hS ?_
  simp only [Act.put, List.getElem_toArray, List.getElem_cons_succ, List.getElem_cons_zero, List.setIfInBounds_toArray, List.set_cons_zero, List.set_cons_succ]
  refine wpAnyH_take (i := 1) (v := .string T) rfl (by kernel_rfl) (by kernel_rfl) (by kernel_rfl) (fun _ _ _ h => h) (Or.inl ⟨by rfl, ?_⟩) hS ?_
  · intro w hSw
    go_simp
  simp only [Act.put, List.getElem_toArray, List.getElem_cons_succ, List.getElem_cons_zero, List.setIfInBounds_toArray, List.set_cons_zero, List.set_cons_succ]
  refine wpAnyH_take (i := 2) (v := .slice (some ⟨g', 0, none⟩) 1 cap') rfl (by kernel_rfl) (by kernel_rfl) (by kernel_rfl) (fun _ _ _ h => h) (Or.inl ⟨by rfl, ?_⟩) hS ?_
  · intro w hSw
    go_simp
  simp only [Act.put, List.getElem_toArray, List.getElem_cons_succ, List.getElem_cons_zero, List.setIfInBounds_toArray, List.set_cons_zero, List.set_cons_succ]
  refine wpAnyH_take (i := 3) (v := .pointer (some ⟨g', 0, none⟩)) rfl (by kernel_rfl) (by kernel_rfl) (by kernel_rfl) (fun _ _ _ h => h) (Or.inl ⟨by rfl, ?_⟩) hS ?_
  · intro w hSw
    go_simp
  simp only [Act.put, List.getElem_toArray, List.getElem_cons_succ, List.getElem_cons_zero, List.setIfInBounds_toArray, List.set_cons_zero, List.set_cons_succ]
  refine wpAnyH_take (i := 4) (v := .string x.text) rfl (by kernel_rfl) (by kernel_rfl) (by kernel_rfl) (fun _ _ _ h => h) (Or.inl ⟨by rfl, ?_⟩) hS ?_
  · rintro w ⟨c9, c0⟩
    go_simp
  simp only [Act.put, List.getElem_toArray, List.getElem_cons_succ, List.getElem_cons_zero, List.setIfInBounds_toArray, List.set_cons_zero, List.set_cons_succ]
  have HMd := HM.drew
  have hbA : Below w1.drew.heap.size w1.drew (w1.drew.alloc (Obj.cells #[.string T, .string x.text] 9)) := below_new (Below.refl _ _) _
  have hP := fun (W : World) (hA : Todo W g ts) (hB : TextsAt W w1.heap.size [x, Ct.n1 43 d x].reverse) (hC : 0 < [x, Ct.n1 43 d x].length → w1.heap.size < W.heap.size) => spec_l6Push ts [x, Ct.n1 43 d x] s g cap w1.heap.size 2 W hA hB (by omega) (by simp) hC
  simp only [hN] at hP
  have hTA : Todo (w1.drew.alloc (Obj.cells #[.string T, .string x.text] 9)) g ts := ((hr.grown HM.b).drew).grown hbA
  have h0 : (w1.drew.alloc (Obj.cells #[.string T, .string x.text] 9)).heap[w1.heap.size]? = some (.cells #[.string T, .string x.text] 9 (0, 0)) := heap_alloc_new w1.drew _
  refine wpAnyH_ready (rs := [5]) (by kernel_rfl) (by simp) ?_
  refine AllReadyH.cons rfl (fun K hK => ?_) AllReadyH.nil
  rw [if_pos (by rfl)]
  unfold Oper.wp
  go_simp
  refine hK.out _ (w1.drew.alloc (Obj.cells #[.string T, .string x.text] 9)) ?_ (fun hS1 => ?_)
  · exact ⟨hS.1.grown hbA, cell_grown hS.2 hbA⟩
  clear hK K
  replace hS := hS1
  clear hS1
  try simp only [Act.put, List.getElem_toArray, List.getElem_cons_succ, List.getElem_cons_zero, List.setIfInBounds_toArray, List.set_cons_zero, List.set_cons_succ]
  refine wpAnyH_ready (rs := [6]) (by kernel_rfl) (by simp) ?_
  refine AllReadyH.cons rfl (fun K hK => ?_) AllReadyH.nil
  rw [if_pos (by rfl)]
  refine op_call 53 _ _ rfl (enters_of Tryz.func53 (by kernel_rfl) rfl) _ (hP (w1.drew.alloc (Obj.cells #[.string T, .string x.text] 9)) hTA ?tx (by simp)) rfl ?_
  case tx =>
    intro j z hj
    obtain rfl | rfl | h2 : j = 0 ∨ j = 1 ∨ 2 ≤ j := by omega
    · simp at hj; subst hj; rw [HTX.out]; exact (cell_of_row _ _ 0 _ _ _ h0).trans rfl
    · simp at hj; subst hj; exact (cell_of_row _ _ 1 _ _ _ h0).trans rfl
    · rw [List.getElem?_eq_none (by simp; omega)] at hj; cases hj
  rintro e w2 ⟨g2, cap2, rfl, hT2, hc2, hg2, hb2⟩
  have HM2 := (HMd.grown hbA).grown hb2
  refine ⟨_, rfl, ?_⟩
  refine hK.out _ _ ?_ (fun hS1 => ?_)
  · exact ⟨hS.1.grown hb2, cell_grown hS.2 hb2⟩
  clear hK K
  replace hS := hS1
  clear hS1
  try simp only [Act.put, List.getElem_toArray, List.getElem_cons_succ, List.getElem_cons_zero, List.setIfInBounds_toArray, List.set_cons_zero, List.set_cons_succ]
  refine wpAnyH_ready (rs := [7]) (by kernel_rfl) (by simp) ?_
  refine AllReadyH.cons rfl (fun K hK => ?_) AllReadyH.nil
  rw [if_pos (by rfl)]
  refine op_store_Blk _ _ _ rfl (w.heap.size + 1) rfl rfl HM2.z at_i rfl (by simp [Value.oneCell']) ?_
  refine hK.out _ _ ?_ (fun hS1 => ?_)
  · exact ⟨hS.1.setRowOther _ _ (by omega), cell_kept hS.2 (setRow_other _ _ _ _ hne)⟩
  clear hK K
  replace hS := hS1
  clear hS1
  try simp only [Act.put, List.getElem_toArray, List.getElem_cons_succ, List.getElem_cons_zero, List.setIfInBounds_toArray, List.set_cons_zero, List.set_cons_succ]
  refine wpAnyH_done (by kernel_rfl) ?_ _
  go_wp2_with fail
  refine ret_Blk rfl (w.heap.size + 1) rfl (HM2.z.setRow _) hu rfl at_i rfl ⟨below_setRow HM2.b (by omega) _, ?_⟩
  show ∃ g2 cap2, _ ∧ _ ∧ _
  refine ⟨g2, cap2, by first | rfl | (rw [← hN]; rfl), ⟨fun j z hj => ?_⟩, hc2⟩
  have hzl := HM.z.lt
  have hg3 : w1.heap.size ≤ g2 := by have h := hg2; simp at h; omega
  exact cell_kept (hT2.lies j z hj) (setRow_other _ _ _ _ (by omega))

theorem spec_ch38_0 (d : List Int) (x y : Ct) (hnd : d.length = 0) (ts : List Ct) (s : Nat) (hs : s < 4) (g cap : Nat) (w : World) (ht : (Ct.n2 38 d x y).WF) (hlen : (Ct.n2 38 d x y).len ≤ 200) (hT : Todo w g (Ct.n2 38 d x y :: ts)) (hn : ts.length ≤ 100000) (hcap : ts.length + 1 ≤ cap) :
    Calls Tryz.prog 19 #[.agg #[.slice (some ⟨g, 0, none⟩) (ts.length + 1) cap, .int .i64 s], .int .u8 48] w (Chosen (Ct.n2 38 d x y) s 0 ts w) := by
  obtain ⟨fs, hu⟩ := at_u
  have hl := hT.last
  have hr := hT.rest
  have hop := op_text (Ct.n2 38 d x y)
  have hb0 : ((bt (Ct.n2 38 d x y).text 0).toNat : Int) = 38 := by rw [hop]; rfl
  have hs0 : 0 < (Ct.n2 38 d x y).text.size := by rw [Ct.text_size]; exact (Ct.n2 38 d x y).len_pos
  have hs1 : 1 + 0 ≤ (Ct.n2 38 d x y).text.size := by rw [Ct.text_size]; have := (Ct.n2 38 d x y).len_head; rw [show (Ct.n2 38 d x y).ds.length = 0 from hnd] at this; exact this
  have HPARTS : ∀ W : World, Calls Tryz.prog 52 #[.string (Ct.n2 38 d x y).text] W fun e w' => (∃ g cap, e = .returned (.slice (some ⟨g, 0, none⟩) (Ct.n2 38 d x y).parts.length cap) ∧ TextsAt w' g (Ct.n2 38 d x y).parts) ∧ Below W.heap.size W w' := fun W => spec_l5Parts (Ct.n2 38 d x y) ht hlen W
  have HM0 := MvS.mk0 w ts.length g cap s
  have HLN : Hid (ts.length = ts.length) := rfl
  clear hop
  generalize hN : ts.length = n at *
  generalize hTX : (Ct.n2 38 d x y).text = T at *
  have HTX := Lib.hid hTX
  clear hTX
  have hs2 : 1 + 0 ≤ T.size → 1 ≤ 0 → ¬ ((T.size : Int) ≤ 1) := fun _ _ => by omega
  have hs3 := hs2 hs1
  clear hs2
  have hl' : ∀ o p, ((w.alloc o).alloc p).cell? ⟨g, n, none⟩ = some (.string T) := fun o p => cell_grown hl (below_new (below_new (Below.refl _ _) _) _)
  go_enter Tryz.func19, Tryz.ntmps19
  go_wp2_with fail
  go_region
  generalize (((w.alloc (Obj.cells #[.slice (some ⟨g, 0, none⟩) (n + 1) cap, .int .i64 s] 38)).alloc (Obj.cells #[.slice none 0 0, .int .i64 0] 38)).alloc (Obj.cells #[.slice (some ⟨g, 0, none⟩) n cap, .int .i64 s] 38)).drew = W0 at *
  go_wp2_with fail
  refine (HPARTS _).mono ?_
  rintro e w1 ⟨⟨g', cap', rfl, hg'⟩, hb1⟩
  have HM := HM0.grown hb1
  clear HPARTS HM0
  have e5 : (Ct.n2 38 d x y).parts.length = 2 := rfl
  rw [e5]
  have c0 := hg' 0 x rfl
  have c1 := hg' 1 y rfl
  have hne : g' ≠ w.heap.size + 1 := by rintro rfl; have h := HM.z.cell2.1; rw [c0] at h; cases h
  go_wp2_with fail
  refine wp_region_held_drew (S := fun W => Blk W (w.heap.size + 1 + 1) 38 #[.slice (some ⟨g, 0, none⟩) n cap, .int .i64 s] ∧ W.cell? ⟨g', 0, none⟩ = some (.string x.text) ∧ W.cell? ⟨g', 1, none⟩ = some (.string y.text)) (by kernel_rfl) ?_ (fun hS => ?_)
  · exact ⟨HM.r.drew, c0, c1⟩
  refine wpAnyH_take (i := 0) (v := .agg #[.slice (some ⟨g, 0, none⟩) n cap, .int .i64 s]) rfl (by kernel_rfl) (by kernel_rfl) (by kernel_rfl) (fun _ _ _ h => h) (yields_Blk (by rfl) _ _ rfl (w.heap.size + 1 + 1) rfl (fun _ h => h.1) hu rfl at_i) hS ?_
  simp only [Act.put, List.getElem_toArray, List.getElem_cons_succ, List.getElem_cons_zero, List.setIfInBounds_toArray, List.set_cons_zero, List.set_cons_succ]
  refine wpAnyH_take (i := 1) (v := .slice (some ⟨g', 0, none⟩) 2 cap') rfl (by kernel_rfl) (by kernel_rfl) (by kernel_rfl) (fun _ _ _ h => h) (Or.inl ⟨by rfl, ?_⟩) hS ?_
  · intro w hSw
    go_simp
  simp only [Act.put, List.getElem_toArray, List.getElem_cons_succ, List.getElem_cons_zero, List.setIfInBounds_toArray, List.set_cons_zero, List.set_cons_succ]
  refine wpAnyH_take (i := 2) (v := .int .i64 0) rfl (by kernel_rfl) (by kernel_rfl) (by kernel_rfl) (fun _ _ _ h => h) (Or.inl ⟨by rfl, ?_⟩) hS ?_
  · intro w hSw
    go_simp
  simp only [Act.put, List.getElem_toArray, List.getElem_cons_succ, List.getElem_cons_zero, List.setIfInBounds_toArray, List.set_cons_zero, List.set_cons_succ]
  refine wpAnyH_take (i := 3) (v := .pointer (some ⟨g', 0, none⟩)) rfl (by kernel_rfl) (by kernel_rfl) (by kernel_rfl) (fun _ _ _ h => h) (Or.inl ⟨by rfl, ?_⟩) hS ?_
  · intro w hSw
    go_simp
  simp only [Act.put, List.getElem_toArray, List.getElem_cons_succ, List.getElem_cons_zero, List.setIfInBounds_toArray, List.set_cons_zero, List.set_cons_succ]
  refine wpAnyH_take (i := 4) (v := .string x.text) rfl (by kernel_rfl) (by kernel_rfl) (by kernel_rfl) (fun _ _ _ h => h) (Or.inl ⟨by rfl, ?_⟩) hS ?_
  · rintro w ⟨c9, c0, c1⟩
    go_simp
  simp only [Act.put, List.getElem_toArray, List.getElem_cons_succ, List.getElem_cons_zero, List.setIfInBounds_toArray, List.set_cons_zero, List.set_cons_succ]
  have HMd := HM.drew
  have hbA : Below w1.drew.heap.size w1.drew (w1.drew.alloc (Obj.cells #[.string x.text] 9)) := below_new (Below.refl _ _) _
  have hP := fun (W : World) (hA : Todo W g ts) (hB : TextsAt W w1.heap.size [x].reverse) (hC : 0 < [x].length → w1.heap.size < W.heap.size) => spec_l6Push ts [x] s g cap w1.heap.size 1 W hA hB (by omega) (by simp) hC
  simp only [hN] at hP
  have hTA : Todo (w1.drew.alloc (Obj.cells #[.string x.text] 9)) g ts := ((hr.grown HM.b).drew).grown hbA
  have h0 : (w1.drew.alloc (Obj.cells #[.string x.text] 9)).heap[w1.heap.size]? = some (.cells #[.string x.text] 9 (0, 0)) := heap_alloc_new w1.drew _
  refine wpAnyH_ready (rs := [5]) (by kernel_rfl) (by simp) ?_
  refine AllReadyH.cons rfl (fun K hK => ?_) AllReadyH.nil
  rw [if_pos (by rfl)]
  unfold Oper.wp
  go_simp
  refine hK.out _ (w1.drew.alloc (Obj.cells #[.string x.text] 9)) ?_ (fun hS1 => ?_)
  · exact ⟨hS.1.grown hbA, cell_grown hS.2.1 hbA, cell_grown hS.2.2 hbA⟩
  clear hK K
  replace hS := hS1
  clear hS1
  try simp only [Act.put, List.getElem_toArray, List.getElem_cons_succ, List.getElem_cons_zero, List.setIfInBounds_toArray, List.set_cons_zero, List.set_cons_succ]
  refine wpAnyH_ready (rs := [6]) (by kernel_rfl) (by simp) ?_
  refine AllReadyH.cons rfl (fun K hK => ?_) AllReadyH.nil
  rw [if_pos (by rfl)]
  refine op_call 53 _ _ rfl (enters_of Tryz.func53 (by kernel_rfl) rfl) _ (hP (w1.drew.alloc (Obj.cells #[.string x.text] 9)) hTA ?tx (by simp)) rfl ?_
  case tx =>
    intro j z hj
    obtain rfl | rfl | h2 : j = 0 ∨ j = 1 ∨ 2 ≤ j := by omega
    · simp at hj; subst hj; exact (cell_of_row _ _ 0 _ _ _ h0).trans rfl
    · simp at hj
    · rw [List.getElem?_eq_none (by simp; omega)] at hj; cases hj
  rintro e w2 ⟨g2, cap2, rfl, hT2, hc2, hg2, hb2⟩
  have HM2 := (HMd.grown hbA).grown hb2
  refine ⟨_, rfl, ?_⟩
  refine hK.out _ _ ?_ (fun hS1 => ?_)
  · exact ⟨hS.1.grown hb2, cell_grown hS.2.1 hb2, cell_grown hS.2.2 hb2⟩
  clear hK K
  replace hS := hS1
  clear hS1
  try simp only [Act.put, List.getElem_toArray, List.getElem_cons_succ, List.getElem_cons_zero, List.setIfInBounds_toArray, List.set_cons_zero, List.set_cons_succ]
  refine wpAnyH_ready (rs := [7]) (by kernel_rfl) (by simp) ?_
  refine AllReadyH.cons rfl (fun K hK => ?_) AllReadyH.nil
  rw [if_pos (by rfl)]
  refine op_store_Blk _ _ _ rfl (w.heap.size + 1) rfl rfl HM2.z at_i rfl (by simp [Value.oneCell']) ?_
  refine hK.out _ _ ?_ (fun hS1 => ?_)
  · exact ⟨hS.1.setRowOther _ _ (by omega), cell_kept hS.2.1 (setRow_other _ _ _ _ hne), cell_kept hS.2.2 (setRow_other _ _ _ _ hne)⟩
  clear hK K
  replace hS := hS1
  clear hS1
  try simp only [Act.put, List.getElem_toArray, List.getElem_cons_succ, List.getElem_cons_zero, List.setIfInBounds_toArray, List.set_cons_zero, List.set_cons_succ]
  refine wpAnyH_done (by kernel_rfl) ?_ _
  go_wp2_with fail
  refine ret_Blk rfl (w.heap.size + 1) rfl (HM2.z.setRow _) hu rfl at_i rfl ⟨below_setRow HM2.b (by omega) _, ?_⟩
  show ∃ g2 cap2, _ ∧ _ ∧ _
  refine ⟨g2, cap2, by first | rfl | (rw [← hN]; rfl), ⟨fun j z hj => ?_⟩, hc2⟩
  have hzl := HM.z.lt
  have hg3 : w1.heap.size ≤ g2 := by have h := hg2; simp at h; omega
  exact cell_kept (hT2.lies j z hj) (setRow_other _ _ _ _ (by omega))

theorem spec_ch38_1 (d : List Int) (x y : Ct) (hnd : d.length = 0) (ts : List Ct) (s : Nat) (hs : s < 4) (g cap : Nat) (w : World) (ht : (Ct.n2 38 d x y).WF) (hlen : (Ct.n2 38 d x y).len ≤ 200) (hT : Todo w g (Ct.n2 38 d x y :: ts)) (hn : ts.length ≤ 100000) (hcap : ts.length + 1 ≤ cap) :
    Calls Tryz.prog 19 #[.agg #[.slice (some ⟨g, 0, none⟩) (ts.length + 1) cap, .int .i64 s], .int .u8 49] w (Chosen (Ct.n2 38 d x y) s 1 ts w) := by
  obtain ⟨fs, hu⟩ := at_u
  have hl := hT.last
  have hr := hT.rest
  have hop := op_text (Ct.n2 38 d x y)
  have hb0 : ((bt (Ct.n2 38 d x y).text 0).toNat : Int) = 38 := by rw [hop]; rfl
  have hs0 : 0 < (Ct.n2 38 d x y).text.size := by rw [Ct.text_size]; exact (Ct.n2 38 d x y).len_pos
  have hs1 : 1 + 0 ≤ (Ct.n2 38 d x y).text.size := by rw [Ct.text_size]; have := (Ct.n2 38 d x y).len_head; rw [show (Ct.n2 38 d x y).ds.length = 0 from hnd] at this; exact this
  have HPARTS : ∀ W : World, Calls Tryz.prog 52 #[.string (Ct.n2 38 d x y).text] W fun e w' => (∃ g cap, e = .returned (.slice (some ⟨g, 0, none⟩) (Ct.n2 38 d x y).parts.length cap) ∧ TextsAt w' g (Ct.n2 38 d x y).parts) ∧ Below W.heap.size W w' := fun W => spec_l5Parts (Ct.n2 38 d x y) ht hlen W
  have HM0 := MvS.mk0 w ts.length g cap s
  have HLN : Hid (ts.length = ts.length) := rfl
  clear hop
  generalize hN : ts.length = n at *
  generalize hTX : (Ct.n2 38 d x y).text = T at *
  have HTX := Lib.hid hTX
  clear hTX
  have hs2 : 1 + 0 ≤ T.size → 1 ≤ 0 → ¬ ((T.size : Int) ≤ 1) := fun _ _ => by omega
  have hs3 := hs2 hs1
  clear hs2
  have hl' : ∀ o p, ((w.alloc o).alloc p).cell? ⟨g, n, none⟩ = some (.string T) := fun o p => cell_grown hl (below_new (below_new (Below.refl _ _) _) _)
  go_enter Tryz.func19, Tryz.ntmps19
  go_wp2_with fail
  go_region
  generalize (((w.alloc (Obj.cells #[.slice (some ⟨g, 0, none⟩) (n + 1) cap, .int .i64 s] 38)).alloc (Obj.cells #[.slice none 0 0, .int .i64 0] 38)).alloc (Obj.cells #[.slice (some ⟨g, 0, none⟩) n cap, .int .i64 s] 38)).drew = W0 at *
  go_wp2_with fail
  refine (HPARTS _).mono ?_
  rintro e w1 ⟨⟨g', cap', rfl, hg'⟩, hb1⟩
  have HM := HM0.grown hb1
  clear HPARTS HM0
  have e5 : (Ct.n2 38 d x y).parts.length = 2 := rfl
  rw [e5]
  have c0 := hg' 0 x rfl
  have c1 := hg' 1 y rfl
  have hne : g' ≠ w.heap.size + 1 := by rintro rfl; have h := HM.z.cell2.1; rw [c0] at h; cases h
  go_wp2_with fail
  refine wp_region_held_drew (S := fun W => Blk W (w.heap.size + 1 + 1) 38 #[.slice (some ⟨g, 0, none⟩) n cap, .int .i64 s] ∧ W.cell? ⟨g', 0, none⟩ = some (.string x.text) ∧ W.cell? ⟨g', 1, none⟩ = some (.string y.text)) (by kernel_rfl) ?_ (fun hS => ?_)
  · exact ⟨HM.r.drew, c0, c1⟩
  refine wpAnyH_take (i := 0) (v := .agg #[.slice (some ⟨g, 0, none⟩) n cap, .int .i64 s]) rfl (by kernel_rfl) (by kernel_rfl) (by kernel_rfl) (fun _ _ _ h => h) (yields_Blk (by rfl) _ _ rfl (w.heap.size + 1 + 1) rfl (fun _ h => h.1) hu rfl at_i) hS ?_
  simp only [Act.put, List.getElem_toArray, List.getElem_cons_succ, List.getElem_cons_zero, List.setIfInBounds_toArray, List.set_cons_zero, List.set_cons_succ]
  refine wpAnyH_take (i := 1) (v := .slice (some ⟨g', 0, none⟩) 2 cap') rfl (by kernel_rfl) (by kernel_rfl) (by kernel_rfl) (fun _ _ _ h => h) (Or.inl ⟨by rfl, ?_⟩) hS ?_
  · intro w hSw
    go_simp
  simp only [Act.put, List.getElem_toArray, List.getElem_cons_succ, List.getElem_cons_zero, List.setIfInBounds_toArray, List.set_cons_zero, List.set_cons_succ]
  refine wpAnyH_take (i := 2) (v := .int .i64 1) rfl (by kernel_rfl) (by kernel_rfl) (by kernel_rfl) (fun _ _ _ h => h) (Or.inl ⟨by rfl, ?_⟩) hS ?_
  · intro w hSw
    go_simp
  simp only [Act.put, List.getElem_toArray, List.getElem_cons_succ, List.getElem_cons_zero, List.setIfInBounds_toArray, List.set_cons_zero, List.set_cons_succ]
  refine wpAnyH_take (i := 3) (v := .pointer (some ⟨g', 1, none⟩)) rfl (by kernel_rfl) (by kernel_rfl) (by kernel_rfl) (fun _ _ _ h => h) (Or.inl ⟨by rfl, ?_⟩) hS ?_
  · intro w hSw
    go_simp
  simp only [Act.put, List.getElem_toArray, List.getElem_cons_succ, List.getElem_cons_zero, List.setIfInBounds_toArray, List.set_cons_zero, List.set_cons_succ]
  refine wpAnyH_take (i := 4) (v := .string y.text) rfl (by kernel_rfl) (by kernel_rfl) (by kernel_rfl) (fun _ _ _ h => h) (Or.inl ⟨by rfl, ?_⟩) hS ?_
  · rintro w ⟨c9, c0, c1⟩
    go_simp
  simp only [Act.put, List.getElem_toArray, List.getElem_cons_succ, List.getElem_cons_zero, List.setIfInBounds_toArray, List.set_cons_zero, List.set_cons_succ]
  have HMd := HM.drew
  have hbA : Below w1.drew.heap.size w1.drew (w1.drew.alloc (Obj.cells #[.string y.text] 9)) := below_new (Below.refl _ _) _
  have hP := fun (W : World) (hA : Todo W g ts) (hB : TextsAt W w1.heap.size [y].reverse) (hC : 0 < [y].length → w1.heap.size < W.heap.size) => spec_l6Push ts [y] s g cap w1.heap.size 1 W hA hB (by omega) (by simp) hC
  simp only [hN] at hP
  have hTA : Todo (w1.drew.alloc (Obj.cells #[.string y.text] 9)) g ts := ((hr.grown HM.b).drew).grown hbA
  have h0 : (w1.drew.alloc (Obj.cells #[.string y.text] 9)).heap[w1.heap.size]? = some (.cells #[.string y.text] 9 (0, 0)) := heap_alloc_new w1.drew _
  refine wpAnyH_ready (rs := [5]) (by kernel_rfl) (by simp) ?_
  refine AllReadyH.cons rfl (fun K hK => ?_) AllReadyH.nil
  rw [if_pos (by rfl)]
  unfold Oper.wp
  go_simp
  refine hK.out _ (w1.drew.alloc (Obj.cells #[.string y.text] 9)) ?_ (fun hS1 => ?_)
  · exact ⟨hS.1.grown hbA, cell_grown hS.2.1 hbA, cell_grown hS.2.2 hbA⟩
  clear hK K
  replace hS := hS1
  clear hS1
  try simp only [Act.put, List.getElem_toArray, List.getElem_cons_succ, List.getElem_cons_zero, List.setIfInBounds_toArray, List.set_cons_zero, List.set_cons_succ]
  refine wpAnyH_ready (rs := [6]) (by kernel_rfl) (by simp) ?_
  refine AllReadyH.cons rfl (fun K hK => ?_) AllReadyH.nil
  rw [if_pos (by rfl)]
  refine op_call 53 _ _ rfl (enters_of Tryz.func53 (by kernel_rfl) rfl) _ (hP (w1.drew.alloc (Obj.cells #[.string y.text] 9)) hTA ?tx (by simp)) rfl ?_
  case tx =>
    intro j z hj
    obtain rfl | rfl | h2 : j = 0 ∨ j = 1 ∨ 2 ≤ j := by omega
    · simp at hj; subst hj; exact (cell_of_row _ _ 0 _ _ _ h0).trans rfl
    · simp at hj
    · rw [List.getElem?_eq_none (by simp; omega)] at hj; cases hj
  rintro e w2 ⟨g2, cap2, rfl, hT2, hc2, hg2, hb2⟩
  have HM2 := (HMd.grown hbA).grown hb2
  refine ⟨_, rfl, ?_⟩
  refine hK.out _ _ ?_ (fun hS1 => ?_)
  · exact ⟨hS.1.grown hb2, cell_grown hS.2.1 hb2, cell_grown hS.2.2 hb2⟩
  clear hK K
  replace hS := hS1
  clear hS1
  try simp only [Act.put, List.getElem_toArray, List.getElem_cons_succ, List.getElem_cons_zero, List.setIfInBounds_toArray, List.set_cons_zero, List.set_cons_succ]
  refine wpAnyH_ready (rs := [7]) (by kernel_rfl) (by simp) ?_
  refine AllReadyH.cons rfl (fun K hK => ?_) AllReadyH.nil
  rw [if_pos (by rfl)]
  refine op_store_Blk _ _ _ rfl (w.heap.size + 1) rfl rfl HM2.z at_i rfl (by simp [Value.oneCell']) ?_
  refine hK.out _ _ ?_ (fun hS1 => ?_)
  · exact ⟨hS.1.setRowOther _ _ (by omega), cell_kept hS.2.1 (setRow_other _ _ _ _ hne), cell_kept hS.2.2 (setRow_other _ _ _ _ hne)⟩
  clear hK K
  replace hS := hS1
  clear hS1
  try simp only [Act.put, List.getElem_toArray, List.getElem_cons_succ, List.getElem_cons_zero, List.setIfInBounds_toArray, List.set_cons_zero, List.set_cons_succ]
  refine wpAnyH_done (by kernel_rfl) ?_ _
  go_wp2_with fail
  refine ret_Blk rfl (w.heap.size + 1) rfl (HM2.z.setRow _) hu rfl at_i rfl ⟨below_setRow HM2.b (by omega) _, ?_⟩
  show ∃ g2 cap2, _ ∧ _ ∧ _
  refine ⟨g2, cap2, by first | rfl | (rw [← hN]; rfl), ⟨fun j z hj => ?_⟩, hc2⟩
  have hzl := HM.z.lt
  have hg3 : w1.heap.size ≤ g2 := by have h := hg2; simp at h; omega
  exact cell_kept (hT2.lies j z hj) (setRow_other _ _ _ _ (by omega))

theorem spec_ch124_0 (d : List Int) (x y : Ct) (hnd : d.length = 0) (ts : List Ct) (s : Nat) (hs : s < 4) (g cap : Nat) (w : World) (ht : (Ct.n2 124 d x y).WF) (hlen : (Ct.n2 124 d x y).len ≤ 200) (hT : Todo w g (Ct.n2 124 d x y :: ts)) (hn : ts.length ≤ 100000) (hcap : ts.length + 1 ≤ cap) :
    Calls Tryz.prog 19 #[.agg #[.slice (some ⟨g, 0, none⟩) (ts.length + 1) cap, .int .i64 s], .int .u8 48] w (Chosen (Ct.n2 124 d x y) s 0 ts w) := by
  obtain ⟨fs, hu⟩ := at_u
  have hl := hT.last
  have hr := hT.rest
  have hop := op_text (Ct.n2 124 d x y)
  have hb0 : ((bt (Ct.n2 124 d x y).text 0).toNat : Int) = 124 := by rw [hop]; rfl
  have hs0 : 0 < (Ct.n2 124 d x y).text.size := by rw [Ct.text_size]; exact (Ct.n2 124 d x y).len_pos
  have hs1 : 1 + 0 ≤ (Ct.n2 124 d x y).text.size := by rw [Ct.text_size]; have := (Ct.n2 124 d x y).len_head; rw [show (Ct.n2 124 d x y).ds.length = 0 from hnd] at this; exact this
  have HPARTS : ∀ W : World, Calls Tryz.prog 52 #[.string (Ct.n2 124 d x y).text] W fun e w' => (∃ g cap, e = .returned (.slice (some ⟨g, 0, none⟩) (Ct.n2 124 d x y).parts.length cap) ∧ TextsAt w' g (Ct.n2 124 d x y).parts) ∧ Below W.heap.size W w' := fun W => spec_l5Parts (Ct.n2 124 d x y) ht hlen W
  have HM0 := MvS.mk0 w ts.length g cap s
  have HLN : Hid (ts.length = ts.length) := rfl
  clear hop
  generalize hN : ts.length = n at *
  generalize hTX : (Ct.n2 124 d x y).text = T at *
  have HTX := Lib.hid hTX
  clear hTX
  have hs2 : 1 + 0 ≤ T.size → 1 ≤ 0 → ¬ ((T.size : Int) ≤ 1) := fun _ _ => by omega
  have hs3 := hs2 hs1
  clear hs2
  have hl' : ∀ o p, ((w.alloc o).alloc p).cell? ⟨g, n, none⟩ = some (.string T) := fun o p => cell_grown hl (below_new (below_new (Below.refl _ _) _) _)
  go_enter Tryz.func19, Tryz.ntmps19
  go_wp2_with fail
  go_region
  generalize (((w.alloc (Obj.cells #[.slice (some ⟨g, 0, none⟩) (n + 1) cap, .int .i64 s] 38)).alloc (Obj.cells #[.slice none 0 0, .int .i64 0] 38)).alloc (Obj.cells #[.slice (some ⟨g, 0, none⟩) n cap, .int .i64 s] 38)).drew = W0 at *
  go_wp2_with fail
  refine (HPARTS _).mono ?_
  rintro e w1 ⟨⟨g', cap', rfl, hg'⟩, hb1⟩
  have HM := HM0.grown hb1
  clear HPARTS HM0
  have e5 : (Ct.n2 124 d x y).parts.length = 2 := rfl
  rw [e5]
  have c0 := hg' 0 x rfl
  have c1 := hg' 1 y rfl
  have hne : g' ≠ w.heap.size + 1 := by rintro rfl; have h := HM.z.cell2.1; rw [c0] at h; cases h
  go_wp2_with fail
  refine wp_region_held_drew (S := fun W => Blk W (w.heap.size + 1 + 1) 38 #[.slice (some ⟨g, 0, none⟩) n cap, .int .i64 s] ∧ W.cell? ⟨g', 0, none⟩ = some (.string x.text) ∧ W.cell? ⟨g', 1, none⟩ = some (.string y.text)) (by kernel_rfl) ?_ (fun hS => ?_)
  · exact ⟨HM.r.drew, c0, c1⟩
  refine wpAnyH_take (i := 0) (v := .agg #[.slice (some ⟨g, 0, none⟩) n cap, .int .i64 s]) rfl (by kernel_rfl) (by kernel_rfl) (by kernel_rfl) (fun _ _ _ h => h) (yields_Blk (by rfl) _ _ rfl (w.heap.size + 1 + 1) rfl (fun _ h => h.1) hu rfl at_i) hS ?_
  simp only [Act.put, List.getElem_toArray, List.getElem_cons_succ, List.getElem_cons_zero, List.setIfInBounds_toArray, List.set_cons_zero, List.set_cons_succ]
  refine wpAnyH_take (i := 1) (v := .slice (some ⟨g', 0, none⟩) 2 cap') rfl (by kernel_rfl) (by kernel_rfl) (by kernel_rfl) (fun _ _ _ h => h) (Or.inl ⟨by rfl, ?_⟩) hS ?_
  · intro w hSw
    go_simp
  simp only [Act.put, List.getElem_toArray, List.getElem_cons_succ, List.getElem_cons_zero, List.setIfInBounds_toArray, List.set_cons_zero, List.set_cons_succ]
  refine wpAnyH_take (i := 2) (v := .int .i64 0) rfl (by kernel_rfl) (by kernel_rfl) (by kernel_rfl) (fun _ _ _ h => h) (Or.inl ⟨by rfl, ?_⟩) hS ?_
  · intro w hSw
    go_simp
  simp only [Act.put, List.getElem_toArray, List.getElem_cons_succ, List.getElem_cons_zero, List.setIfInBounds_toArray, List.set_cons_zero, List.set_cons_succ]
  refine wpAnyH_take (i := 3) (v := .pointer (some ⟨g', 0, none⟩)) rfl (by kernel_rfl) (by kernel_rfl) (by kernel_rfl) (fun _ _ _ h => h) (Or.inl ⟨by rfl, ?_⟩) hS ?_
  · intro w hSw
    go_simp
  simp only [Act.put, List.getElem_toArray, List.getElem_cons_succ, List.getElem_cons_zero, List.setIfInBounds_toArray, List.set_cons_zero, List.set_cons_succ]
  refine wpAnyH_take (i := 4) (v := .string x.text) rfl (by kernel_rfl) (by kernel_rfl) (by kernel_rfl) (fun _ _ _ h => h) (Or.inl ⟨by rfl, ?_⟩) hS ?_
  · rintro w ⟨c9, c0, c1⟩
    go_simp
  simp only [Act.put, List.getElem_toArray, List.getElem_cons_succ, List.getElem_cons_zero, List.setIfInBounds_toArray, List.set_cons_zero, List.set_cons_succ]
  have HMd := HM.drew
  have hbA : Below w1.drew.heap.size w1.drew (w1.drew.alloc (Obj.cells #[.string x.text] 9)) := below_new (Below.refl _ _) _
  have hP := fun (W : World) (hA : Todo W g ts) (hB : TextsAt W w1.heap.size [x].reverse) (hC : 0 < [x].length → w1.heap.size < W.heap.size) => spec_l6Push ts [x] s g cap w1.heap.size 1 W hA hB (by omega) (by simp) hC
  simp only [hN] at hP
  have hTA : Todo (w1.drew.alloc (Obj.cells #[.string x.text] 9)) g ts := ((hr.grown HM.b).drew).grown hbA
  have h0 : (w1.drew.alloc (Obj.cells #[.string x.text] 9)).heap[w1.heap.size]? = some (.cells #[.string x.text] 9 (0, 0)) := heap_alloc_new w1.drew _
  refine wpAnyH_ready (rs := [5]) (by kernel_rfl) (by simp) ?_
  refine AllReadyH.cons rfl (fun K hK => ?_) AllReadyH.nil
  rw [if_pos (by rfl)]
  unfold Oper.wp
  go_simp
  refine hK.out _ (w1.drew.alloc (Obj.cells #[.string x.text] 9)) ?_ (fun hS1 => ?_)
  · exact ⟨hS.1.grown hbA, cell_grown hS.2.1 hbA, cell_grown hS.2.2 hbA⟩
  clear hK K
  replace hS := hS1
  clear hS1
  try simp only [Act.put, List.getElem_toArray, List.getElem_cons_succ, List.getElem_cons_zero, List.setIfInBounds_toArray, List.set_cons_zero, List.set_cons_succ]
  refine wpAnyH_ready (rs := [6]) (by kernel_rfl) (by simp) ?_
  refine AllReadyH.cons rfl (fun K hK => ?_) AllReadyH.nil
  rw [if_pos (by rfl)]
  refine op_call 53 _ _ rfl (enters_of Tryz.func53 (by kernel_rfl) rfl) _ (hP (w1.drew.alloc (Obj.cells #[.string x.text] 9)) hTA ?tx (by simp)) rfl ?_
  case tx =>
    intro j z hj
    obtain rfl | rfl | h2 : j = 0 ∨ j = 1 ∨ 2 ≤ j := by omega
    · simp at hj; subst hj; exact (cell_of_row _ _ 0 _ _ _ h0).trans rfl
    · simp at hj
    · rw [List.getElem?_eq_none (by simp; omega)] at hj; cases hj
  rintro e w2 ⟨g2, cap2, rfl, hT2, hc2, hg2, hb2⟩
  have HM2 := (HMd.grown hbA).grown hb2
  refine ⟨_, rfl, ?_⟩
  refine hK.out _ _ ?_ (fun hS1 => ?_)
  · exact ⟨hS.1.grown hb2, cell_grown hS.2.1 hb2, cell_grown hS.2.2 hb2⟩
  clear hK K
  replace hS := hS1
  clear hS1
  try simp only [Act.put, List.getElem_toArray, List.getElem_cons_succ, List.getElem_cons_zero, List.setIfInBounds_toArray, List.set_cons_zero, List.set_cons_succ]
  refine wpAnyH_ready (rs := [7]) (by kernel_rfl) (by simp) ?_
  refine AllReadyH.cons rfl (fun K hK => ?_) AllReadyH.nil
  rw [if_pos (by rfl)]
  refine op_store_Blk _ _ _ rfl (w.heap.size + 1) rfl rfl HM2.z at_i rfl (by simp [Value.oneCell']) ?_
  refine hK.out _ _ ?_ (fun hS1 => ?_)
  · exact ⟨hS.1.setRowOther _ _ (by omega), cell_kept hS.2.1 (setRow_other _ _ _ _ hne), cell_kept hS.2.2 (setRow_other _ _ _ _ hne)⟩
  clear hK K
  replace hS := hS1
  clear hS1
  try simp only [Act.put, List.getElem_toArray, List.getElem_cons_succ, List.getElem_cons_zero, List.setIfInBounds_toArray, List.set_cons_zero, List.set_cons_succ]
  refine wpAnyH_done (by kernel_rfl) ?_ _
  go_wp2_with fail
  refine ret_Blk rfl (w.heap.size + 1) rfl (HM2.z.setRow _) hu rfl at_i rfl ⟨below_setRow HM2.b (by omega) _, ?_⟩
  show ∃ g2 cap2, _ ∧ _ ∧ _
  refine ⟨g2, cap2, by first | rfl | (rw [← hN]; rfl), ⟨fun j z hj => ?_⟩, hc2⟩
  have hzl := HM.z.lt
  have hg3 : w1.heap.size ≤ g2 := by have h := hg2; simp at h; omega
  exact cell_kept (hT2.lies j z hj) (setRow_other _ _ _ _ (by omega))

theorem spec_ch124_1 (d : List Int) (x y : Ct) (hnd : d.length = 0) (ts : List Ct) (s : Nat) (hs : s < 4) (g cap : Nat) (w : World) (ht : (Ct.n2 124 d x y).WF) (hlen : (Ct.n2 124 d x y).len ≤ 200) (hT : Todo w g (Ct.n2 124 d x y :: ts)) (hn : ts.length ≤ 100000) (hcap : ts.length + 1 ≤ cap) :
    Calls Tryz.prog 19 #[.agg #[.slice (some ⟨g, 0, none⟩) (ts.length + 1) cap, .int .i64 s], .int .u8 49] w (Chosen (Ct.n2 124 d x y) s 1 ts w) := by
  obtain ⟨fs, hu⟩ := at_u
  have hl := hT.last
  have hr := hT.rest
  have hop := op_text (Ct.n2 124 d x y)
  have hb0 : ((bt (Ct.n2 124 d x y).text 0).toNat : Int) = 124 := by rw [hop]; rfl
  have hs0 : 0 < (Ct.n2 124 d x y).text.size := by rw [Ct.text_size]; exact (Ct.n2 124 d x y).len_pos
  have hs1 : 1 + 0 ≤ (Ct.n2 124 d x y).text.size := by rw [Ct.text_size]; have := (Ct.n2 124 d x y).len_head; rw [show (Ct.n2 124 d x y).ds.length = 0 from hnd] at this; exact this
  have HPARTS : ∀ W : World, Calls Tryz.prog 52 #[.string (Ct.n2 124 d x y).text] W fun e w' => (∃ g cap, e = .returned (.slice (some ⟨g, 0, none⟩) (Ct.n2 124 d x y).parts.length cap) ∧ TextsAt w' g (Ct.n2 124 d x y).parts) ∧ Below W.heap.size W w' := fun W => spec_l5Parts (Ct.n2 124 d x y) ht hlen W
  have HM0 := MvS.mk0 w ts.length g cap s
  have HLN : Hid (ts.length = ts.length) := rfl
  clear hop
  generalize hN : ts.length = n at *
  generalize hTX : (Ct.n2 124 d x y).text = T at *
  have HTX := Lib.hid hTX
  clear hTX
  have hs2 : 1 + 0 ≤ T.size → 1 ≤ 0 → ¬ ((T.size : Int) ≤ 1) := fun _ _ => by omega
  have hs3 := hs2 hs1
  clear hs2
  have hl' : ∀ o p, ((w.alloc o).alloc p).cell? ⟨g, n, none⟩ = some (.string T) := fun o p => cell_grown hl (below_new (below_new (Below.refl _ _) _) _)
  go_enter Tryz.func19, Tryz.ntmps19
  go_wp2_with fail
  go_region
  generalize (((w.alloc (Obj.cells #[.slice (some ⟨g, 0, none⟩) (n + 1) cap, .int .i64 s] 38)).alloc (Obj.cells #[.slice none 0 0, .int .i64 0] 38)).alloc (Obj.cells #[.slice (some ⟨g, 0, none⟩) n cap, .int .i64 s] 38)).drew = W0 at *
  go_wp2_with fail
  refine (HPARTS _).mono ?_
  rintro e w1 ⟨⟨g', cap', rfl, hg'⟩, hb1⟩
  have HM := HM0.grown hb1
  clear HPARTS HM0
  have e5 : (Ct.n2 124 d x y).parts.length = 2 := rfl
  rw [e5]
  have c0 := hg' 0 x rfl
  have c1 := hg' 1 y rfl
  have hne : g' ≠ w.heap.size + 1 := by rintro rfl; have h := HM.z.cell2.1; rw [c0] at h; cases h
  go_wp2_with fail
  refine wp_region_held_drew (S := fun W => Blk W (w.heap.size + 1 + 1) 38 #[.slice (some ⟨g, 0, none⟩) n cap, .int .i64 s] ∧ W.cell? ⟨g', 0, none⟩ = some (.string x.text) ∧ W.cell? ⟨g', 1, none⟩ = some (.string y.text)) (by kernel_rfl) ?_ (fun hS => ?_)
  · exact ⟨HM.r.drew, c0, c1⟩
  refine wpAnyH_take (i := 0) (v := .agg #[.slice (some ⟨g, 0, none⟩) n cap, .int .i64 s]) rfl (by kernel_rfl) (by kernel_rfl) (by kernel_rfl) (fun _ _ _ h => h) (yields_Blk (by rfl) _ _ rfl (w.heap.size + 1 + 1) rfl (fun _ h => h.1) hu rfl at_i) hS ?_
  simp only [Act.put, List.getElem_toArray, List.getElem_cons_succ, List.getElem_cons_zero, List.setIfInBounds_toArray, List.set_cons_zero, List.set_cons_succ]
  refine wpAnyH_take (i := 1) (v := .slice (some ⟨g', 0, none⟩) 2 cap') rfl (by kernel_rfl) (by kernel_rfl) (by kernel_rfl) (fun _ _ _ h => h) (Or.inl ⟨by rfl, ?_⟩) hS ?_
  · intro w hSw
    go_simp
  simp only [Act.put, List.getElem_toArray, List.getElem_cons_succ, List.getElem_cons_zero, List.setIfInBounds_toArray, List.set_cons_zero, List.set_cons_succ]
  refine wpAnyH_take (i := 2) (v := .int .i64 1) rfl (by kernel_rfl) (by kernel_rfl) (by kernel_rfl) (fun _ _ _ h => h) (Or.inl ⟨by rfl, ?_⟩) hS ?_
  · intro w hSw
    go_simp
  simp only [Act.put, List.getElem_toArray, List.getElem_cons_succ, List.getElem_cons_zero, List.setIfInBounds_toArray, List.set_cons_zero, List.set_cons_succ]
  refine wpAnyH_take (i := 3) (v := .pointer (some ⟨g', 1, none⟩)) rfl (by kernel_rfl) (by kernel_rfl) (by kernel_rfl) (fun _ _ _ h => h) (Or.inl ⟨by rfl, ?_⟩) hS ?_
  · intro w hSw
    go_simp
  simp only [Act.put, List.getElem_toArray, List.getElem_cons_succ, List.getElem_cons_zero, List.setIfInBounds_toArray, List.set_cons_zero, List.set_cons_succ]
  refine wpAnyH_take (i := 4) (v := .string y.text) rfl (by kernel_rfl) (by kernel_rfl) (by kernel_rfl) (fun _ _ _ h => h) (Or.inl ⟨by rfl, ?_⟩) hS ?_
  · rintro w ⟨c9, c0, c1⟩
    go_simp
  simp only [Act.put, List.getElem_toArray, List.getElem_cons_succ, List.getElem_cons_zero, List.setIfInBounds_toArray, List.set_cons_zero, List.set_cons_succ]
  have HMd := HM.drew
  have hbA : Below w1.drew.heap.size w1.drew (w1.drew.alloc (Obj.cells #[.string y.text] 9)) := below_new (Below.refl _ _) _
  have hP := fun (W : World) (hA : Todo W g ts) (hB : TextsAt W w1.heap.size [y].reverse) (hC : 0 < [y].length → w1.heap.size < W.heap.size) => spec_l6Push ts [y] s g cap w1.heap.size 1 W hA hB (by omega) (by simp) hC
  simp only [hN] at hP
  have hTA : Todo (w1.drew.alloc (Obj.cells #[.string y.text] 9)) g ts := ((hr.grown HM.b).drew).grown hbA
  have h0 : (w1.drew.alloc (Obj.cells #[.string y.text] 9)).heap[w1.heap.size]? = some (.cells #[.string y.text] 9 (0, 0)) := heap_alloc_new w1.drew _
  refine wpAnyH_ready (rs := [5]) (by kernel_rfl) (by simp) ?_
  refine AllReadyH.cons rfl (fun K hK => ?_) AllReadyH.nil
  rw [if_pos (by rfl)]
  unfold Oper.wp
  go_simp
  refine hK.out _ (w1.drew.alloc (Obj.cells #[.string y.text] 9)) ?_ (fun hS1 => ?_)
  · exact ⟨hS.1.grown hbA, cell_grown hS.2.1 hbA, cell_grown hS.2.2 hbA⟩
  clear hK K
  replace hS := hS1
  clear hS1
  try simp only [Act.put, List.getElem_toArray, List.getElem_cons_succ, List.getElem_cons_zero, List.setIfInBounds_toArray, List.set_cons_zero, List.set_cons_succ]
  refine wpAnyH_ready (rs := [6]) (by kernel_rfl) (by simp) ?_
  refine AllReadyH.cons rfl (fun K hK => ?_) AllReadyH.nil
  rw [if_pos (by rfl)]
  refine op_call 53 _ _ rfl (enters_of Tryz.func53 (by kernel_rfl) rfl) _ (hP (w1.drew.alloc (Obj.cells #[.string y.text] 9)) hTA ?tx (by simp)) rfl ?_
  case tx =>
    intro j z hj
    obtain rfl | rfl | h2 : j = 0 ∨ j = 1 ∨ 2 ≤ j := by omega
    · simp at hj; subst hj; exact (cell_of_row _ _ 0 _ _ _ h0).trans rfl
    · simp at hj
    · rw [List.getElem?_eq_none (by simp; omega)] at hj; cases hj
  rintro e w2 ⟨g2, cap2, rfl, hT2, hc2, hg2, hb2⟩
  have HM2 := (HMd.grown hbA).grown hb2
  refine ⟨_, rfl, ?_⟩
  refine hK.out _ _ ?_ (fun hS1 => ?_)
  · exact ⟨hS.1.grown hb2, cell_grown hS.2.1 hb2, cell_grown hS.2.2 hb2⟩
  clear hK K
  replace hS := hS1
  clear hS1
  try simp only [Act.put, List.getElem_toArray, List.getElem_cons_succ, List.getElem_cons_zero, List.setIfInBounds_toArray, List.set_cons_zero, List.set_cons_succ]
  refine wpAnyH_ready (rs := [7]) (by kernel_rfl) (by simp) ?_
  refine AllReadyH.cons rfl (fun K hK => ?_) AllReadyH.nil
  rw [if_pos (by rfl)]
  refine op_store_Blk _ _ _ rfl (w.heap.size + 1) rfl rfl HM2.z at_i rfl (by simp [Value.oneCell']) ?_
  refine hK.out _ _ ?_ (fun hS1 => ?_)
  · exact ⟨hS.1.setRowOther _ _ (by omega), cell_kept hS.2.1 (setRow_other _ _ _ _ hne), cell_kept hS.2.2 (setRow_other _ _ _ _ hne)⟩
  clear hK K
  replace hS := hS1
  clear hS1
  try simp only [Act.put, List.getElem_toArray, List.getElem_cons_succ, List.getElem_cons_zero, List.setIfInBounds_toArray, List.set_cons_zero, List.set_cons_succ]
  refine wpAnyH_done (by kernel_rfl) ?_ _
  go_wp2_with fail
  refine ret_Blk rfl (w.heap.size + 1) rfl (HM2.z.setRow _) hu rfl at_i rfl ⟨below_setRow HM2.b (by omega) _, ?_⟩
  show ∃ g2 cap2, _ ∧ _ ∧ _
  refine ⟨g2, cap2, by first | rfl | (rw [← hN]; rfl), ⟨fun j z hj => ?_⟩, hc2⟩
  have hzl := HM.z.lt
  have hg3 : w1.heap.size ≤ g2 := by have h := hg2; simp at h; omega
  exact cell_kept (hT2.lies j z hj) (setRow_other _ _ _ _ (by omega))

theorem spec_ch65_0 (d : List Int) (hnd : d.length = 4) (ts : List Ct) (s : Nat) (hs : s < 4) (g cap : Nat) (w : World) (ht : (Ct.n0 65 d).WF) (hlen : (Ct.n0 65 d).len ≤ 200) (hT : Todo w g (Ct.n0 65 d :: ts)) (hn : ts.length ≤ 100000) (hcap : ts.length + 1 ≤ cap) :
    Calls Tryz.prog 19 #[.agg #[.slice (some ⟨g, 0, none⟩) (ts.length + 1) cap, .int .i64 s], .int .u8 48] w (Chosen (Ct.n0 65 d) s 0 ts w) := by
  obtain ⟨fs, hu⟩ := at_u
  have hl := hT.last
  have hr := hT.rest
  have hop := op_text (Ct.n0 65 d)
  have hb0 : ((bt (Ct.n0 65 d).text 0).toNat : Int) = 65 := by rw [hop]; rfl
  have hs0 : 0 < (Ct.n0 65 d).text.size := by rw [Ct.text_size]; exact (Ct.n0 65 d).len_pos
  have hs1 : 1 + 4 ≤ (Ct.n0 65 d).text.size := by rw [Ct.text_size]; have := (Ct.n0 65 d).len_head; rw [show (Ct.n0 65 d).ds.length = 4 from hnd] at this; exact this
  have HPARTS : ∀ W : World, Calls Tryz.prog 52 #[.string (Ct.n0 65 d).text] W fun e w' => (∃ g cap, e = .returned (.slice (some ⟨g, 0, none⟩) (Ct.n0 65 d).parts.length cap) ∧ TextsAt w' g (Ct.n0 65 d).parts) ∧ Below W.heap.size W w' := fun W => spec_l5Parts (Ct.n0 65 d) ht hlen W
  have HM0 := MvS.mk0 w ts.length g cap s
  have HLN : Hid (ts.length = ts.length) := rfl
  clear hop
  generalize hN : ts.length = n at *
  generalize hTX : (Ct.n0 65 d).text = T at *
  have HTX := Lib.hid hTX
  clear hTX
  have hs2 : 1 + 4 ≤ T.size → 1 ≤ 4 → ¬ ((T.size : Int) ≤ 1) := fun _ _ => by omega
  have hs3 := hs2 hs1
  clear hs2
  have hl' : ∀ o p, ((w.alloc o).alloc p).cell? ⟨g, n, none⟩ = some (.string T) := fun o p => cell_grown hl (below_new (below_new (Below.refl _ _) _) _)
  go_enter Tryz.func19, Tryz.ntmps19
  go_wp2_with fail
  go_region
  generalize (((w.alloc (Obj.cells #[.slice (some ⟨g, 0, none⟩) (n + 1) cap, .int .i64 s] 38)).alloc (Obj.cells #[.slice none 0 0, .int .i64 0] 38)).alloc (Obj.cells #[.slice (some ⟨g, 0, none⟩) n cap, .int .i64 s] 38)).drew = W0 at *
  go_wp2_with fail
  refine (HPARTS _).mono ?_
  rintro e w1 ⟨⟨g', cap', rfl, hg'⟩, hb1⟩
  have HM := HM0.grown hb1
  clear HPARTS HM0
  have hs4 := hs3 (by decide)
  clear hs3
  have e5 : (Ct.n0 65 d).parts.length = 0 := rfl
  rw [e5]
  have hc1 := HM.r.cell2.2
  have hf1 := HM.r.free 1
  have HR1 := HM.r.set1 (.int .i64 0)
  have HZ1 := HM.z.setCellOther (w.heap.size + 1 + 1) 1 (.int .i64 0) (by omega)
  have hbz := below_setAt HM.b (w.heap.size + 1 + 1) 1 (by omega) (.int .i64 0)
  go_wp2_with (first
    | (refine wp_store_Blk rfl _ _ _ rfl (w.heap.size + 1) rfl rfl HZ1 at_i rfl (by simp [Value.oneCell']) ?_)
    | (refine wp_load_Blk rfl _ _ rfl (w.heap.size + 1 + 1) rfl HR1 hu rfl at_i ?_))
  refine ret_Blk rfl (w.heap.size + 1) rfl (HZ1.setRow _) hu rfl at_i rfl ⟨below_setRow hbz (by omega) _, ?_⟩
  refine ⟨g, cap, by first | rfl | (rw [← hN]; rfl), ⟨fun j x hj => ?_⟩, by show ts.length ≤ cap; omega⟩
  exact cell_kept (cell_grown_b (hr.lies j x hj) hbz) (setRow_other _ _ _ _ (by have := block_lt_of_cell (hr.lies j x hj); show g ≠ _; have : g < w.heap.size := this; omega))

theorem spec_ch65_1 (d : List Int) (hnd : d.length = 4) (ts : List Ct) (s : Nat) (hs : s < 4) (g cap : Nat) (w : World) (ht : (Ct.n0 65 d).WF) (hlen : (Ct.n0 65 d).len ≤ 200) (hT : Todo w g (Ct.n0 65 d :: ts)) (hn : ts.length ≤ 100000) (hcap : ts.length + 1 ≤ cap) :
    Calls Tryz.prog 19 #[.agg #[.slice (some ⟨g, 0, none⟩) (ts.length + 1) cap, .int .i64 s], .int .u8 49] w (Chosen (Ct.n0 65 d) s 1 ts w) := by
  obtain ⟨fs, hu⟩ := at_u
  have hl := hT.last
  have hr := hT.rest
  have hop := op_text (Ct.n0 65 d)
  have hb0 : ((bt (Ct.n0 65 d).text 0).toNat : Int) = 65 := by rw [hop]; rfl
  have hs0 : 0 < (Ct.n0 65 d).text.size := by rw [Ct.text_size]; exact (Ct.n0 65 d).len_pos
  have hs1 : 1 + 4 ≤ (Ct.n0 65 d).text.size := by rw [Ct.text_size]; have := (Ct.n0 65 d).len_head; rw [show (Ct.n0 65 d).ds.length = 4 from hnd] at this; exact this
  have HPARTS : ∀ W : World, Calls Tryz.prog 52 #[.string (Ct.n0 65 d).text] W fun e w' => (∃ g cap, e = .returned (.slice (some ⟨g, 0, none⟩) (Ct.n0 65 d).parts.length cap) ∧ TextsAt w' g (Ct.n0 65 d).parts) ∧ Below W.heap.size W w' := fun W => spec_l5Parts (Ct.n0 65 d) ht hlen W
  have HM0 := MvS.mk0 w ts.length g cap s
  have HLN : Hid (ts.length = ts.length) := rfl
  clear hop
  generalize hN : ts.length = n at *
  generalize hTX : (Ct.n0 65 d).text = T at *
  have HTX := Lib.hid hTX
  clear hTX
  have hs2 : 1 + 4 ≤ T.size → 1 ≤ 4 → ¬ ((T.size : Int) ≤ 1) := fun _ _ => by omega
  have hs3 := hs2 hs1
  clear hs2
  have hl' : ∀ o p, ((w.alloc o).alloc p).cell? ⟨g, n, none⟩ = some (.string T) := fun o p => cell_grown hl (below_new (below_new (Below.refl _ _) _) _)
  go_enter Tryz.func19, Tryz.ntmps19
  go_wp2_with fail
  go_region
  generalize (((w.alloc (Obj.cells #[.slice (some ⟨g, 0, none⟩) (n + 1) cap, .int .i64 s] 38)).alloc (Obj.cells #[.slice none 0 0, .int .i64 0] 38)).alloc (Obj.cells #[.slice (some ⟨g, 0, none⟩) n cap, .int .i64 s] 38)).drew = W0 at *
  go_wp2_with fail
  refine (HPARTS _).mono ?_
  rintro e w1 ⟨⟨g', cap', rfl, hg'⟩, hb1⟩
  have HM := HM0.grown hb1
  clear HPARTS HM0
  have hs4 := hs3 (by decide)
  clear hs3
  have e5 : (Ct.n0 65 d).parts.length = 0 := rfl
  rw [e5]
  have hc1 := HM.r.cell2.2
  have hf1 := HM.r.free 1
  have HR1 := HM.r.set1 (.int .i64 1)
  have HZ1 := HM.z.setCellOther (w.heap.size + 1 + 1) 1 (.int .i64 1) (by omega)
  have hbz := below_setAt HM.b (w.heap.size + 1 + 1) 1 (by omega) (.int .i64 1)
  go_wp2_with (first
    | (refine wp_store_Blk rfl _ _ _ rfl (w.heap.size + 1) rfl rfl HZ1 at_i rfl (by simp [Value.oneCell']) ?_)
    | (refine wp_load_Blk rfl _ _ rfl (w.heap.size + 1 + 1) rfl HR1 hu rfl at_i ?_))
  refine ret_Blk rfl (w.heap.size + 1) rfl (HZ1.setRow _) hu rfl at_i rfl ⟨below_setRow hbz (by omega) _, ?_⟩
  refine ⟨g, cap, by first | rfl | (rw [← hN]; rfl), ⟨fun j x hj => ?_⟩, by show ts.length ≤ cap; omega⟩
  exact cell_kept (cell_grown_b (hr.lies j x hj) hbz) (setRow_other _ _ _ _ (by have := block_lt_of_cell (hr.lies j x hj); show g ≠ _; have : g < w.heap.size := this; omega))

theorem spec_ch65_2 (d : List Int) (hnd : d.length = 4) (ts : List Ct) (s : Nat) (hs : s < 4) (g cap : Nat) (w : World) (ht : (Ct.n0 65 d).WF) (hlen : (Ct.n0 65 d).len ≤ 200) (hT : Todo w g (Ct.n0 65 d :: ts)) (hn : ts.length ≤ 100000) (hcap : ts.length + 1 ≤ cap) :
    Calls Tryz.prog 19 #[.agg #[.slice (some ⟨g, 0, none⟩) (ts.length + 1) cap, .int .i64 s], .int .u8 50] w (Chosen (Ct.n0 65 d) s 2 ts w) := by
  obtain ⟨fs, hu⟩ := at_u
  have hl := hT.last
  have hr := hT.rest
  have hop := op_text (Ct.n0 65 d)
  have hb0 : ((bt (Ct.n0 65 d).text 0).toNat : Int) = 65 := by rw [hop]; rfl
  have hs0 : 0 < (Ct.n0 65 d).text.size := by rw [Ct.text_size]; exact (Ct.n0 65 d).len_pos
  have hs1 : 1 + 4 ≤ (Ct.n0 65 d).text.size := by rw [Ct.text_size]; have := (Ct.n0 65 d).len_head; rw [show (Ct.n0 65 d).ds.length = 4 from hnd] at this; exact this
  have HPARTS : ∀ W : World, Calls Tryz.prog 52 #[.string (Ct.n0 65 d).text] W fun e w' => (∃ g cap, e = .returned (.slice (some ⟨g, 0, none⟩) (Ct.n0 65 d).parts.length cap) ∧ TextsAt w' g (Ct.n0 65 d).parts) ∧ Below W.heap.size W w' := fun W => spec_l5Parts (Ct.n0 65 d) ht hlen W
  have HM0 := MvS.mk0 w ts.length g cap s
  have HLN : Hid (ts.length = ts.length) := rfl
  clear hop
  generalize hN : ts.length = n at *
  generalize hTX : (Ct.n0 65 d).text = T at *
  have HTX := Lib.hid hTX
  clear hTX
  have hs2 : 1 + 4 ≤ T.size → 1 ≤ 4 → ¬ ((T.size : Int) ≤ 1) := fun _ _ => by omega
  have hs3 := hs2 hs1
  clear hs2
  have hl' : ∀ o p, ((w.alloc o).alloc p).cell? ⟨g, n, none⟩ = some (.string T) := fun o p => cell_grown hl (below_new (below_new (Below.refl _ _) _) _)
  go_enter Tryz.func19, Tryz.ntmps19
  go_wp2_with fail
  go_region
  generalize (((w.alloc (Obj.cells #[.slice (some ⟨g, 0, none⟩) (n + 1) cap, .int .i64 s] 38)).alloc (Obj.cells #[.slice none 0 0, .int .i64 0] 38)).alloc (Obj.cells #[.slice (some ⟨g, 0, none⟩) n cap, .int .i64 s] 38)).drew = W0 at *
  go_wp2_with fail
  refine (HPARTS _).mono ?_
  rintro e w1 ⟨⟨g', cap', rfl, hg'⟩, hb1⟩
  have HM := HM0.grown hb1
  clear HPARTS HM0
  have hs4 := hs3 (by decide)
  clear hs3
  have e5 : (Ct.n0 65 d).parts.length = 0 := rfl
  rw [e5]
  have hc1 := HM.r.cell2.2
  have hf1 := HM.r.free 1
  have HR1 := HM.r.set1 (.int .i64 2)
  have HZ1 := HM.z.setCellOther (w.heap.size + 1 + 1) 1 (.int .i64 2) (by omega)
  have hbz := below_setAt HM.b (w.heap.size + 1 + 1) 1 (by omega) (.int .i64 2)
  go_wp2_with (first
    | (refine wp_store_Blk rfl _ _ _ rfl (w.heap.size + 1) rfl rfl HZ1 at_i rfl (by simp [Value.oneCell']) ?_)
    | (refine wp_load_Blk rfl _ _ rfl (w.heap.size + 1 + 1) rfl HR1 hu rfl at_i ?_))
  refine ret_Blk rfl (w.heap.size + 1) rfl (HZ1.setRow _) hu rfl at_i rfl ⟨below_setRow hbz (by omega) _, ?_⟩
  refine ⟨g, cap, by first | rfl | (rw [← hN]; rfl), ⟨fun j x hj => ?_⟩, by show ts.length ≤ cap; omega⟩
  exact cell_kept (cell_grown_b (hr.lies j x hj) hbz) (setRow_other _ _ _ _ (by have := block_lt_of_cell (hr.lies j x hj); show g ≠ _; have : g < w.heap.size := this; omega))

theorem spec_ch65_3 (d : List Int) (hnd : d.length = 4) (ts : List Ct) (s : Nat) (hs : s < 4) (g cap : Nat) (w : World) (ht : (Ct.n0 65 d).WF) (hlen : (Ct.n0 65 d).len ≤ 200) (hT : Todo w g (Ct.n0 65 d :: ts)) (hn : ts.length ≤ 100000) (hcap : ts.length + 1 ≤ cap) :
    Calls Tryz.prog 19 #[.agg #[.slice (some ⟨g, 0, none⟩) (ts.length + 1) cap, .int .i64 s], .int .u8 51] w (Chosen (Ct.n0 65 d) s 3 ts w) := by
  obtain ⟨fs, hu⟩ := at_u
  have hl := hT.last
  have hr := hT.rest
  have hop := op_text (Ct.n0 65 d)
  have hb0 : ((bt (Ct.n0 65 d).text 0).toNat : Int) = 65 := by rw [hop]; rfl
  have hs0 : 0 < (Ct.n0 65 d).text.size := by rw [Ct.text_size]; exact (Ct.n0 65 d).len_pos
  have hs1 : 1 + 4 ≤ (Ct.n0 65 d).text.size := by rw [Ct.text_size]; have := (Ct.n0 65 d).len_head; rw [show (Ct.n0 65 d).ds.length = 4 from hnd] at this; exact this
  have HPARTS : ∀ W : World, Calls Tryz.prog 52 #[.string (Ct.n0 65 d).text] W fun e w' => (∃ g cap, e = .returned (.slice (some ⟨g, 0, none⟩) (Ct.n0 65 d).parts.length cap) ∧ TextsAt w' g (Ct.n0 65 d).parts) ∧ Below W.heap.size W w' := fun W => spec_l5Parts (Ct.n0 65 d) ht hlen W
  have HM0 := MvS.mk0 w ts.length g cap s
  have HLN : Hid (ts.length = ts.length) := rfl
  clear hop
  generalize hN : ts.length = n at *
  generalize hTX : (Ct.n0 65 d).text = T at *
  have HTX := Lib.hid hTX
  clear hTX
  have hs2 : 1 + 4 ≤ T.size → 1 ≤ 4 → ¬ ((T.size : Int) ≤ 1) := fun _ _ => by omega
  have hs3 := hs2 hs1
  clear hs2
  have hl' : ∀ o p, ((w.alloc o).alloc p).cell? ⟨g, n, none⟩ = some (.string T) := fun o p => cell_grown hl (below_new (below_new (Below.refl _ _) _) _)
  go_enter Tryz.func19, Tryz.ntmps19
  go_wp2_with fail
  go_region
  generalize (((w.alloc (Obj.cells #[.slice (some ⟨g, 0, none⟩) (n + 1) cap, .int .i64 s] 38)).alloc (Obj.cells #[.slice none 0 0, .int .i64 0] 38)).alloc (Obj.cells #[.slice (some ⟨g, 0, none⟩) n cap, .int .i64 s] 38)).drew = W0 at *
  go_wp2_with fail
  refine (HPARTS _).mono ?_
  rintro e w1 ⟨⟨g', cap', rfl, hg'⟩, hb1⟩
  have HM := HM0.grown hb1
  clear HPARTS HM0
  have hs4 := hs3 (by decide)
  clear hs3
  have e5 : (Ct.n0 65 d).parts.length = 0 := rfl
  rw [e5]
  have hc1 := HM.r.cell2.2
  have hf1 := HM.r.free 1
  have HR1 := HM.r.set1 (.int .i64 3)
  have HZ1 := HM.z.setCellOther (w.heap.size + 1 + 1) 1 (.int .i64 3) (by omega)
  have hbz := below_setAt HM.b (w.heap.size + 1 + 1) 1 (by omega) (.int .i64 3)
  go_wp2_with (first
    | (refine wp_store_Blk rfl _ _ _ rfl (w.heap.size + 1) rfl rfl HZ1 at_i rfl (by simp [Value.oneCell']) ?_)
    | (refine wp_load_Blk rfl _ _ rfl (w.heap.size + 1 + 1) rfl HR1 hu rfl at_i ?_))
  refine ret_Blk rfl (w.heap.size + 1) rfl (HZ1.setRow _) hu rfl at_i rfl ⟨below_setRow hbz (by omega) _, ?_⟩
  refine ⟨g, cap, by first | rfl | (rw [← hN]; rfl), ⟨fun j x hj => ?_⟩, by show ts.length ≤ cap; omega⟩
  exact cell_kept (cell_grown_b (hr.lies j x hj) hbz) (setRow_other _ _ _ _ (by have := block_lt_of_cell (hr.lies j x hj); show g ≠ _; have : g < w.heap.size := this; omega))

theorem spec_ch68_0 (d : List Int) (hnd : d.length = 4) (ts : List Ct) (s : Nat) (hs : s < 4) (g cap : Nat) (w : World) (ht : (Ct.n0 68 d).WF) (hlen : (Ct.n0 68 d).len ≤ 200) (hT : Todo w g (Ct.n0 68 d :: ts)) (hn : ts.length ≤ 100000) (hcap : ts.length + 1 ≤ cap) :
    Calls Tryz.prog 19 #[.agg #[.slice (some ⟨g, 0, none⟩) (ts.length + 1) cap, .int .i64 s], .int .u8 48] w (Chosen (Ct.n0 68 d) s 0 ts w) := by
  obtain ⟨fs, hu⟩ := at_u
  have hl := hT.last
  have hr := hT.rest
  have hop := op_text (Ct.n0 68 d)
  have hb0 : ((bt (Ct.n0 68 d).text 0).toNat : Int) = 68 := by rw [hop]; rfl
  have hs0 : 0 < (Ct.n0 68 d).text.size := by rw [Ct.text_size]; exact (Ct.n0 68 d).len_pos
  have hs1 : 1 + 4 ≤ (Ct.n0 68 d).text.size := by rw [Ct.text_size]; have := (Ct.n0 68 d).len_head; rw [show (Ct.n0 68 d).ds.length = 4 from hnd] at this; exact this
  have HPARTS : ∀ W : World, Calls Tryz.prog 52 #[.string (Ct.n0 68 d).text] W fun e w' => (∃ g cap, e = .returned (.slice (some ⟨g, 0, none⟩) (Ct.n0 68 d).parts.length cap) ∧ TextsAt w' g (Ct.n0 68 d).parts) ∧ Below W.heap.size W w' := fun W => spec_l5Parts (Ct.n0 68 d) ht hlen W
  have HM0 := MvS.mk0 w ts.length g cap s
  have HLN : Hid (ts.length = ts.length) := rfl
  clear hop
  generalize hN : ts.length = n at *
  generalize hTX : (Ct.n0 68 d).text = T at *
  have HTX := Lib.hid hTX
  clear hTX
  have hs2 : 1 + 4 ≤ T.size → 1 ≤ 4 → ¬ ((T.size : Int) ≤ 1) := fun _ _ => by omega
  have hs3 := hs2 hs1
  clear hs2
  have hl' : ∀ o p, ((w.alloc o).alloc p).cell? ⟨g, n, none⟩ = some (.string T) := fun o p => cell_grown hl (below_new (below_new (Below.refl _ _) _) _)
  go_enter Tryz.func19, Tryz.ntmps19
  go_wp2_with fail
  go_region
  generalize (((w.alloc (Obj.cells #[.slice (some ⟨g, 0, none⟩) (n + 1) cap, .int .i64 s] 38)).alloc (Obj.cells #[.slice none 0 0, .int .i64 0] 38)).alloc (Obj.cells #[.slice (some ⟨g, 0, none⟩) n cap, .int .i64 s] 38)).drew = W0 at *
  go_wp2_with fail
  refine (HPARTS _).mono ?_
  rintro e w1 ⟨⟨g', cap', rfl, hg'⟩, hb1⟩
  have HM := HM0.grown hb1
  clear HPARTS HM0
  have hs4 := hs3 (by decide)
  clear hs3
  have e5 : (Ct.n0 68 d).parts.length = 0 := rfl
  rw [e5]
  have hc1 := HM.r.cell2.2
  have hf1 := HM.r.free 1
  have HR1 := HM.r.set1 (.int .i64 0)
  have HZ1 := HM.z.setCellOther (w.heap.size + 1 + 1) 1 (.int .i64 0) (by omega)
  have hbz := below_setAt HM.b (w.heap.size + 1 + 1) 1 (by omega) (.int .i64 0)
  go_wp2_with (first
    | (refine wp_store_Blk rfl _ _ _ rfl (w.heap.size + 1) rfl rfl HZ1 at_i rfl (by simp [Value.oneCell']) ?_)
    | (refine wp_load_Blk rfl _ _ rfl (w.heap.size + 1 + 1) rfl HR1 hu rfl at_i ?_))
  refine ret_Blk rfl (w.heap.size + 1) rfl (HZ1.setRow _) hu rfl at_i rfl ⟨below_setRow hbz (by omega) _, ?_⟩
  refine ⟨g, cap, by first | rfl | (rw [← hN]; rfl), ⟨fun j x hj => ?_⟩, by show ts.length ≤ cap; omega⟩
  exact cell_kept (cell_grown_b (hr.lies j x hj) hbz) (setRow_other _ _ _ _ (by have := block_lt_of_cell (hr.lies j x hj); show g ≠ _; have : g < w.heap.size := this; omega))

theorem spec_ch68_1 (d : List Int) (hnd : d.length = 4) (ts : List Ct) (s : Nat) (hs : s < 4) (g cap : Nat) (w : World) (ht : (Ct.n0 68 d).WF) (hlen : (Ct.n0 68 d).len ≤ 200) (hT : Todo w g (Ct.n0 68 d :: ts)) (hn : ts.length ≤ 100000) (hcap : ts.length + 1 ≤ cap) :
    Calls Tryz.prog 19 #[.agg #[.slice (some ⟨g, 0, none⟩) (ts.length + 1) cap, .int .i64 s], .int .u8 49] w (Chosen (Ct.n0 68 d) s 1 ts w) := by
  obtain ⟨fs, hu⟩ := at_u
  have hl := hT.last
  have hr := hT.rest
  have hop := op_text (Ct.n0 68 d)
  have hb0 : ((bt (Ct.n0 68 d).text 0).toNat : Int) = 68 := by rw [hop]; rfl
  have hs0 : 0 < (Ct.n0 68 d).text.size := by rw [Ct.text_size]; exact (Ct.n0 68 d).len_pos
  have hs1 : 1 + 4 ≤ (Ct.n0 68 d).text.size := by rw [Ct.text_size]; have := (Ct.n0 68 d).len_head; rw [show (Ct.n0 68 d).ds.length = 4 from hnd] at this; exact this
  have HPARTS : ∀ W : World, Calls Tryz.prog 52 #[.string (Ct.n0 68 d).text] W fun e w' => (∃ g cap, e = .returned (.slice (some ⟨g, 0, none⟩) (Ct.n0 68 d).parts.length cap) ∧ TextsAt w' g (Ct.n0 68 d).parts) ∧ Below W.heap.size W w' := fun W => spec_l5Parts (Ct.n0 68 d) ht hlen W
  have HM0 := MvS.mk0 w ts.length g cap s
  have HLN : Hid (ts.length = ts.length) := rfl
  clear hop
  generalize hN : ts.length = n at *
  generalize hTX : (Ct.n0 68 d).text = T at *
  have HTX := Lib.hid hTX
  clear hTX
  have hs2 : 1 + 4 ≤ T.size → 1 ≤ 4 → ¬ ((T.size : Int) ≤ 1) := fun _ _ => by omega
  have hs3 := hs2 hs1
  clear hs2
  have hl' : ∀ o p, ((w.alloc o).alloc p).cell? ⟨g, n, none⟩ = some (.string T) := fun o p => cell_grown hl (below_new (below_new (Below.refl _ _) _) _)
  go_enter Tryz.func19, Tryz.ntmps19
  go_wp2_with fail
  go_region
  generalize (((w.alloc (Obj.cells #[.slice (some ⟨g, 0, none⟩) (n + 1) cap, .int .i64 s] 38)).alloc (Obj.cells #[.slice none 0 0, .int .i64 0] 38)).alloc (Obj.cells #[.slice (some ⟨g, 0, none⟩) n cap, .int .i64 s] 38)).drew = W0 at *
  go_wp2_with fail
  refine (HPARTS _).mono ?_
  rintro e w1 ⟨⟨g', cap', rfl, hg'⟩, hb1⟩
  have HM := HM0.grown hb1
  clear HPARTS HM0
  have hs4 := hs3 (by decide)
  clear hs3
  have e5 : (Ct.n0 68 d).parts.length = 0 := rfl
  rw [e5]
  have hc1 := HM.r.cell2.2
  have hf1 := HM.r.free 1
  have HR1 := HM.r.set1 (.int .i64 1)
  have HZ1 := HM.z.setCellOther (w.heap.size + 1 + 1) 1 (.int .i64 1) (by omega)
  have hbz := below_setAt HM.b (w.heap.size + 1 + 1) 1 (by omega) (.int .i64 1)
  go_wp2_with (first
    | (refine wp_store_Blk rfl _ _ _ rfl (w.heap.size + 1) rfl rfl HZ1 at_i rfl (by simp [Value.oneCell']) ?_)
    | (refine wp_load_Blk rfl _ _ rfl (w.heap.size + 1 + 1) rfl HR1 hu rfl at_i ?_))
  refine ret_Blk rfl (w.heap.size + 1) rfl (HZ1.setRow _) hu rfl at_i rfl ⟨below_setRow hbz (by omega) _, ?_⟩
  refine ⟨g, cap, by first | rfl | (rw [← hN]; rfl), ⟨fun j x hj => ?_⟩, by show ts.length ≤ cap; omega⟩
  exact cell_kept (cell_grown_b (hr.lies j x hj) hbz) (setRow_other _ _ _ _ (by have := block_lt_of_cell (hr.lies j x hj); show g ≠ _; have : g < w.heap.size := this; omega))

theorem spec_ch68_2 (d : List Int) (hnd : d.length = 4) (ts : List Ct) (s : Nat) (hs : s < 4) (g cap : Nat) (w : World) (ht : (Ct.n0 68 d).WF) (hlen : (Ct.n0 68 d).len ≤ 200) (hT : Todo w g (Ct.n0 68 d :: ts)) (hn : ts.length ≤ 100000) (hcap : ts.length + 1 ≤ cap) :
    Calls Tryz.prog 19 #[.agg #[.slice (some ⟨g, 0, none⟩) (ts.length + 1) cap, .int .i64 s], .int .u8 50] w (Chosen (Ct.n0 68 d) s 2 ts w) := by
  obtain ⟨fs, hu⟩ := at_u
  have hl := hT.last
  have hr := hT.rest
  have hop := op_text (Ct.n0 68 d)
  have hb0 : ((bt (Ct.n0 68 d).text 0).toNat : Int) = 68 := by rw [hop]; rfl
  have hs0 : 0 < (Ct.n0 68 d).text.size := by rw [Ct.text_size]; exact (Ct.n0 68 d).len_pos
  have hs1 : 1 + 4 ≤ (Ct.n0 68 d).text.size := by rw [Ct.text_size]; have := (Ct.n0 68 d).len_head; rw [show (Ct.n0 68 d).ds.length = 4 from hnd] at this; exact this
  have HPARTS : ∀ W : World, Calls Tryz.prog 52 #[.string (Ct.n0 68 d).text] W fun e w' => (∃ g cap, e = .returned (.slice (some ⟨g, 0, none⟩) (Ct.n0 68 d).parts.length cap) ∧ TextsAt w' g (Ct.n0 68 d).parts) ∧ Below W.heap.size W w' := fun W => spec_l5Parts (Ct.n0 68 d) ht hlen W
  have HM0 := MvS.mk0 w ts.length g cap s
  have HLN : Hid (ts.length = ts.length) := rfl
  clear hop
  generalize hN : ts.length = n at *
  generalize hTX : (Ct.n0 68 d).text = T at *
  have HTX := Lib.hid hTX
  clear hTX
  have hs2 : 1 + 4 ≤ T.size → 1 ≤ 4 → ¬ ((T.size : Int) ≤ 1) := fun _ _ => by omega
  have hs3 := hs2 hs1
  clear hs2
  have hl' : ∀ o p, ((w.alloc o).alloc p).cell? ⟨g, n, none⟩ = some (.string T) := fun o p => cell_grown hl (below_new (below_new (Below.refl _ _) _) _)
  go_enter Tryz.func19, Tryz.ntmps19
  go_wp2_with fail
  go_region
  generalize (((w.alloc (Obj.cells #[.slice (some ⟨g, 0, none⟩) (n + 1) cap, .int .i64 s] 38)).alloc (Obj.cells #[.slice none 0 0, .int .i64 0] 38)).alloc (Obj.cells #[.slice (some ⟨g, 0, none⟩) n cap, .int .i64 s] 38)).drew = W0 at *
  go_wp2_with fail
  refine (HPARTS _).mono ?_
  rintro e w1 ⟨⟨g', cap', rfl, hg'⟩, hb1⟩
  have HM := HM0.grown hb1
  clear HPARTS HM0
  have hs4 := hs3 (by decide)
  clear hs3
  have e5 : (Ct.n0 68 d).parts.length = 0 := rfl
  rw [e5]
  have hc1 := HM.r.cell2.2
  have hf1 := HM.r.free 1
  have HR1 := HM.r.set1 (.int .i64 2)
  have HZ1 := HM.z.setCellOther (w.heap.size + 1 + 1) 1 (.int .i64 2) (by omega)
  have hbz := below_setAt HM.b (w.heap.size + 1 + 1) 1 (by omega) (.int .i64 2)
  go_wp2_with (first
    | (refine wp_store_Blk rfl _ _ _ rfl (w.heap.size + 1) rfl rfl HZ1 at_i rfl (by simp [Value.oneCell']) ?_)
    | (refine wp_load_Blk rfl _ _ rfl (w.heap.size + 1 + 1) rfl HR1 hu rfl at_i ?_))
  refine ret_Blk rfl (w.heap.size + 1) rfl (HZ1.setRow _) hu rfl at_i rfl ⟨below_setRow hbz (by omega) _, ?_⟩
  refine ⟨g, cap, by first | rfl | (rw [← hN]; rfl), ⟨fun j x hj => ?_⟩, by show ts.length ≤ cap; omega⟩
  exact cell_kept (cell_grown_b (hr.lies j x hj) hbz) (setRow_other _ _ _ _ (by have := block_lt_of_cell (hr.lies j x hj); show g ≠ _; have : g < w.heap.size := this; omega))

theorem spec_ch68_3 (d : List Int) (hnd : d.length = 4) (ts : List Ct) (s : Nat) (hs : s < 4) (g cap : Nat) (w : World) (ht : (Ct.n0 68 d).WF) (hlen : (Ct.n0 68 d).len ≤ 200) (hT : Todo w g (Ct.n0 68 d :: ts)) (hn : ts.length ≤ 100000) (hcap : ts.length + 1 ≤ cap) :
    Calls Tryz.prog 19 #[.agg #[.slice (some ⟨g, 0, none⟩) (ts.length + 1) cap, .int .i64 s], .int .u8 51] w (Chosen (Ct.n0 68 d) s 3 ts w) := by
  obtain ⟨fs, hu⟩ := at_u
  have hl := hT.last
  have hr := hT.rest
  have hop := op_text (Ct.n0 68 d)
  have hb0 : ((bt (Ct.n0 68 d).text 0).toNat : Int) = 68 := by rw [hop]; rfl
  have hs0 : 0 < (Ct.n0 68 d).text.size := by rw [Ct.text_size]; exact (Ct.n0 68 d).len_pos
  have hs1 : 1 + 4 ≤ (Ct.n0 68 d).text.size := by rw [Ct.text_size]; have := (Ct.n0 68 d).len_head; rw [show (Ct.n0 68 d).ds.length = 4 from hnd] at this; exact this
  have HPARTS : ∀ W : World, Calls Tryz.prog 52 #[.string (Ct.n0 68 d).text] W fun e w' => (∃ g cap, e = .returned (.slice (some ⟨g, 0, none⟩) (Ct.n0 68 d).parts.length cap) ∧ TextsAt w' g (Ct.n0 68 d).parts) ∧ Below W.heap.size W w' := fun W => spec_l5Parts (Ct.n0 68 d) ht hlen W
  have HM0 := MvS.mk0 w ts.length g cap s
  have HLN : Hid (ts.length = ts.length) := rfl
  clear hop
  generalize hN : ts.length = n at *
  generalize hTX : (Ct.n0 68 d).text = T at *
  have HTX := Lib.hid hTX
  clear hTX
  have hs2 : 1 + 4 ≤ T.size → 1 ≤ 4 → ¬ ((T.size : Int) ≤ 1) := fun _ _ => by omega
  have hs3 := hs2 hs1
  clear hs2
  have hl' : ∀ o p, ((w.alloc o).alloc p).cell? ⟨g, n, none⟩ = some (.string T) := fun o p => cell_grown hl (below_new (below_new (Below.refl _ _) _) _)
  go_enter Tryz.func19, Tryz.ntmps19
  go_wp2_with fail
  go_region
  generalize (((w.alloc (Obj.cells #[.slice (some ⟨g, 0, none⟩) (n + 1) cap, .int .i64 s] 38)).alloc (Obj.cells #[.slice none 0 0, .int .i64 0] 38)).alloc (Obj.cells #[.slice (some ⟨g, 0, none⟩) n cap, .int .i64 s] 38)).drew = W0 at *
  go_wp2_with fail
  refine (HPARTS _).mono ?_
  rintro e w1 ⟨⟨g', cap', rfl, hg'⟩, hb1⟩
  have HM := HM0.grown hb1
  clear HPARTS HM0
  have hs4 := hs3 (by decide)
  clear hs3
  have e5 : (Ct.n0 68 d).parts.length = 0 := rfl
  rw [e5]
  have hc1 := HM.r.cell2.2
  have hf1 := HM.r.free 1
  have HR1 := HM.r.set1 (.int .i64 3)
  have HZ1 := HM.z.setCellOther (w.heap.size + 1 + 1) 1 (.int .i64 3) (by omega)
  have hbz := below_setAt HM.b (w.heap.size + 1 + 1) 1 (by omega) (.int .i64 3)
  go_wp2_with (first
    | (refine wp_store_Blk rfl _ _ _ rfl (w.heap.size + 1) rfl rfl HZ1 at_i rfl (by simp [Value.oneCell']) ?_)
    | (refine wp_load_Blk rfl _ _ rfl (w.heap.size + 1 + 1) rfl HR1 hu rfl at_i ?_))
  refine ret_Blk rfl (w.heap.size + 1) rfl (HZ1.setRow _) hu rfl at_i rfl ⟨below_setRow hbz (by omega) _, ?_⟩
  refine ⟨g, cap, by first | rfl | (rw [← hN]; rfl), ⟨fun j x hj => ?_⟩, by show ts.length ≤ cap; omega⟩
  exact cell_kept (cell_grown_b (hr.lies j x hj) hbz) (setRow_other _ _ _ _ (by have := block_lt_of_cell (hr.lies j x hj); show g ≠ _; have : g < w.heap.size := this; omega))

theorem spec_l6Choose (t : Ct) (ts : List Ct) (s : Nat) (hs : s < 4) (c k : Nat) (hc : c = 48 + k) (hp : t.next s = .pick) (hk : k ∈ t.opts s) (g cap : Nat) (w : World) (ht : t.WF) (hlen : t.len ≤ 200) (hT : Todo w g (t :: ts)) (hn : ts.length ≤ 100000) (hcap : ts.length + 1 ≤ cap) :
    Calls Tryz.prog 19 #[.agg #[.slice (some ⟨g, 0, none⟩) (ts.length + 1) cap, .int .i64 s], .int .u8 (c : Nat)] w (Chosen t s k ts w) := by
  subst hc
  rcases next_pick ht hp with ⟨d, rfl, hd⟩ | ⟨d, rfl, hd⟩ | ⟨x, rfl⟩ | ⟨x, rfl⟩ | ⟨x, y, rfl⟩ | ⟨x, y, rfl⟩
  · have h4 : k < 4 := by simp only [Ct.opts, List.mem_filter, List.mem_range] at hk; exact hk.1
    obtain rfl | rfl | rfl | rfl : k = 0 ∨ k = 1 ∨ k = 2 ∨ k = 3 := by omega
    · exact spec_ch65_0 d hd ts s hs g cap w ht hlen hT hn hcap
    · exact spec_ch65_1 d hd ts s hs g cap w ht hlen hT hn hcap
    · exact spec_ch65_2 d hd ts s hs g cap w ht hlen hT hn hcap
    · exact spec_ch65_3 d hd ts s hs g cap w ht hlen hT hn hcap
  · have h4 : k < 4 := by simp only [Ct.opts, List.mem_filter, List.mem_range] at hk; exact hk.1
    obtain rfl | rfl | rfl | rfl : k = 0 ∨ k = 1 ∨ k = 2 ∨ k = 3 := by omega
    · exact spec_ch68_0 d hd ts s hs g cap w ht hlen hT hn hcap
    · exact spec_ch68_1 d hd ts s hs g cap w ht hlen hT hn hcap
    · exact spec_ch68_2 d hd ts s hs g cap w ht hlen hT hn hcap
    · exact spec_ch68_3 d hd ts s hs g cap w ht hlen hT hn hcap
  · have h2 : k = 0 ∨ k = 1 := by simpa [Ct.opts] using hk
    rcases h2 with rfl | rfl
    · exact spec_ch42_0 [] x rfl ts s hs g cap w ht hlen hT hn hcap
    · exact spec_ch42_1 [] x rfl ts s hs g cap w ht hlen hT hn hcap
  · have h2 : k = 0 ∨ k = 1 := by simpa [Ct.opts] using hk
    rcases h2 with rfl | rfl
    · exact spec_ch43_0 [] x rfl ts s hs g cap w ht hlen hT hn hcap
    · exact spec_ch43_1 [] x rfl ts s hs g cap w ht hlen hT hn hcap
  · have h2 : k = 0 ∨ k = 1 := by simpa [Ct.opts] using hk
    rcases h2 with rfl | rfl
    · exact spec_ch38_0 [] x y rfl ts s hs g cap w ht hlen hT hn hcap
    · exact spec_ch38_1 [] x y rfl ts s hs g cap w ht hlen hT hn hcap
  · have h2 : k = 0 ∨ k = 1 := by simpa [Ct.opts] using hk
    rcases h2 with rfl | rfl
    · exact spec_ch124_0 [] x y rfl ts s hs g cap w ht hlen hT hn hcap
    · exact spec_ch124_1 [] x y rfl ts s hs g cap w ht hlen hT hn hcap
end Go.Proofs.YtaeibhpkcikaaaaGreatDoor
