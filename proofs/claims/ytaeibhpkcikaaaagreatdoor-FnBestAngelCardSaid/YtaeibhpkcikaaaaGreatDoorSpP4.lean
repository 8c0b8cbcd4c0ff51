/- Plays: the reference's moves that push statements (printed by mk6.py). -/
import Derived.Test.YtaeibhpkcikaaaaGreatDoorSpP3
namespace Go.Proofs.YtaeibhpkcikaaaaGreatDoor
set_option linter.unusedVariables false
set_option linter.unusedSimpArgs false
open Go.RowKit Go.Shelf
set_option maxRecDepth 100000
set_option maxHeartbeats 1000000

theorem wpStill_load_Blk {P : Program} {ops : Array Oper} {w : World} {Q : Act → Prop} {a : Act} {o : Oper} {rest : List Oper} (hw : Region.wanted o (yielded ops a.tmps) = true) (ty : TypeId) (x : Operand) (ho : o.op = .load ty x) (g : Nat) (hx : a.eval x = .pointer (some ⟨g, 0, none⟩)) {t : TypeId} {c : Array Value} {d : TypeDesc}
    (hg : Blk w g t c) (hu : P.underlying ty = some d) (hd : (match d with | .struct _ | .array _ _ => true | _ => false) = true) (hi : (P.info? ty).map (·.size) = some c.size)
    (h : wpStill P ops w Q rest (a.put o.dst (.agg c))) : wpStill P ops w Q (o :: rest) a := by
  refine wpStill_step fun K hK => ?_
  rw [if_pos hw]
  unfold Oper.still execOp
  simp only [ho, hx, Instr.loadAt, Instr.sureAddr, Sem.run_bind, Sem.run_pure, Result.andThen_ok, run_loadVar_row w g t ty c (0, 0) d hg.eq hu hd hi]
  rw [Oper.stillUpon_value]; exact hK _ h

theorem spec_mv59 (d : List Int) (x y : Ct) (hnd : d.length = 0) (ts : List Ct) (s : Nat) (hs : s < 4) (g cap : Nat) (w : World) (ht : (Ct.n2 59 d x y).WF) (hlen : (Ct.n2 59 d x y).len ≤ 200) (hT : Todo w g (Ct.n2 59 d x y :: ts)) (hn : ts.length ≤ 100000) (hcap : ts.length + 1 ≤ cap) :
    Calls Tryz.prog 46 #[.agg #[.slice (some ⟨g, 0, none⟩) (ts.length + 1) cap, .int .i64 s]] w (Moved (Ct.n2 59 d x y) s ts g cap w) := by
  obtain ⟨fs, hu⟩ := at_u
  have hl := hT.last
  have hr := hT.rest
  have hop := op_text (Ct.n2 59 d x y)
  have hb0 : ((bt (Ct.n2 59 d x y).text 0).toNat : Int) = 59 := by rw [hop]; rfl
  have hs0 : 0 < (Ct.n2 59 d x y).text.size := by rw [Ct.text_size]; exact (Ct.n2 59 d x y).len_pos
  have hs1 : 1 + 0 ≤ (Ct.n2 59 d x y).text.size := by rw [Ct.text_size]; have := (Ct.n2 59 d x y).len_head; rw [show (Ct.n2 59 d x y).ds.length = 0 from hnd] at this; exact this
  have HPARTS : ∀ W : World, Calls Tryz.prog 52 #[.string (Ct.n2 59 d x y).text] W fun e w' => (∃ g cap, e = .returned (.slice (some ⟨g, 0, none⟩) (Ct.n2 59 d x y).parts.length cap) ∧ TextsAt w' g (Ct.n2 59 d x y).parts) ∧ Below W.heap.size W w' := fun W => spec_l5Parts (Ct.n2 59 d x y) ht hlen W
  have HM0 := MvS.mk0 w ts.length g cap s
  have HLN : Hid (ts.length = ts.length) := rfl
  clear hop
  generalize hN : ts.length = n at *
  generalize hTX : (Ct.n2 59 d x y).text = T at *
  have HTX := Lib.hid hTX
  clear hTX
  have hs2 : 1 + 0 ≤ T.size → 1 ≤ 0 → ¬ ((T.size : Int) ≤ 1) := fun _ _ => by omega
  have hs3 := hs2 hs1
  clear hs2
  have hl' : ∀ o p, ((w.alloc o).alloc p).cell? ⟨g, n, none⟩ = some (.string T) := fun o p => cell_grown hl (below_new (below_new (Below.refl _ _) _) _)
  go_enter Tryz.func46, Tryz.ntmps46
  go_wp2_with fail
  go_region
  generalize (((w.alloc (Obj.cells #[.slice (some ⟨g, 0, none⟩) (n + 1) cap, .int .i64 s] 38)).alloc (Obj.cells #[.slice none 0 0, .int .i64 0] 38)).alloc (Obj.cells #[.slice (some ⟨g, 0, none⟩) n cap, .int .i64 s] 38)).drew = W0 at *
  go_wp2_with fail
  refine (HPARTS _).mono ?_
  rintro e w1 ⟨⟨g', cap', rfl, hg'⟩, hb1⟩
  have HM := HM0.grown hb1
  clear HPARTS HM0
  have e5 : (Ct.n2 59 d x y).parts.length = 2 := rfl
  rw [e5]
  have c0 := hg' 0 x rfl
  have c1 := hg' 1 y rfl
  have hne : g' ≠ w.heap.size + 1 := by rintro rfl; have h := HM.z.cell2.1; rw [c0] at h; cases h
  go_wp2_with fail
  refine wp_region_held_drew (S := fun W => Blk W (w.heap.size + 1 + 1) 38 #[.slice (some ⟨g, 0, none⟩) n cap, .int .i64 s] ∧ W.cell? ⟨g', 0, none⟩ = some (.string x.text) ∧ W.cell? ⟨g', 1, none⟩ = some (.string y.text)) (by kernel_rfl) ?_ (fun hS => ?_)
  · exact ⟨HM.r.drew, c0, c1⟩
  refine wpAnyH_take (i := 0) (v := .agg #[.slice (some ⟨g, 0, none⟩) n cap, .int .i64 s]) rfl (by kernel_rfl) (by kernel_rfl) (by kernel_rfl) (fun _ _ _ h => h) (yields_Blk (by rfl) _ _ rfl (w.heap.size + 1 + 1) rfl (fun _ h => h.1) hu rfl at_i) hS ?_
  simp only [Act.put, List.getElem_toArray, List.getElem_cons_succ, List.getElem_cons_zero, List.setIfInBounds_toArray, List.set_cons_zero, List.set_cons_succ]
  refine wpAnyH_take (i := 1) (v := .slice (some ⟨g', 0, none⟩) 2 cap') rfl (by kernel_rfl) (by kernel_rfl) (by kernel_rfl) (fun _ _ _ h => h) (Or.inl ⟨by rfl, ?_⟩) hS ?_
  · intro w hSw
    go_simp
  simp only [Act.put, List.getElem_toArray, List.getElem_cons_succ, List.getElem_cons_zero, List.setIfInBounds_toArray, List.set_cons_zero, List.set_cons_succ]
  refine wpAnyH_take (i := 2) (v := .pointer (some ⟨g', 1, none⟩)) rfl (by kernel_rfl) (by kernel_rfl) (by kernel_rfl) (fun _ _ _ h => h) (Or.inl ⟨by rfl, ?_⟩) hS ?_
  · intro w hSw
    go_simp
  simp only [Act.put, List.getElem_toArray, List.getElem_cons_succ, List.getElem_cons_zero, List.setIfInBounds_toArray, List.set_cons_zero, List.set_cons_succ]
  refine wpAnyH_take (i := 3) (v := .string y.text) rfl (by kernel_rfl) (by kernel_rfl) (by kernel_rfl) (fun _ _ _ h => h) (Or.inl ⟨by rfl, ?_⟩) hS ?_
  · rintro w ⟨c9, c0, c1⟩
    go_simp
  simp only [Act.put, List.getElem_toArray, List.getElem_cons_succ, List.getElem_cons_zero, List.setIfInBounds_toArray, List.set_cons_zero, List.set_cons_succ]
  refine wpAnyH_take (i := 4) (v := .slice (some ⟨g', 0, none⟩) 2 cap') rfl (by kernel_rfl) (by kernel_rfl) (by kernel_rfl) (fun _ _ _ h => h) (Or.inl ⟨by rfl, ?_⟩) hS ?_
  · intro w hSw
    go_simp
  simp only [Act.put, List.getElem_toArray, List.getElem_cons_succ, List.getElem_cons_zero, List.setIfInBounds_toArray, List.set_cons_zero, List.set_cons_succ]
  refine wpAnyH_take (i := 5) (v := .pointer (some ⟨g', 0, none⟩)) rfl (by kernel_rfl) (by kernel_rfl) (by kernel_rfl) (fun _ _ _ h => h) (Or.inl ⟨by rfl, ?_⟩) hS ?_
  · intro w hSw
    go_simp
  simp only [Act.put, List.getElem_toArray, List.getElem_cons_succ, List.getElem_cons_zero, List.setIfInBounds_toArray, List.set_cons_zero, List.set_cons_succ]
  refine wpAnyH_take (i := 6) (v := .string x.text) rfl (by kernel_rfl) (by kernel_rfl) (by kernel_rfl) (fun _ _ _ h => h) (Or.inl ⟨by rfl, ?_⟩) hS ?_
  · rintro w ⟨c9, c0, c1⟩
    go_simp
  simp only [Act.put, List.getElem_toArray, List.getElem_cons_succ, List.getElem_cons_zero, List.setIfInBounds_toArray, List.set_cons_zero, List.set_cons_succ]
  have HMd := HM.drew
  have hbA : Below w1.drew.heap.size w1.drew (w1.drew.alloc (Obj.cells #[.string y.text, .string x.text] 9)) := below_new (Below.refl _ _) _
  have hP := fun (W : World) (hA : Todo W g ts) (hB : TextsAt W w1.heap.size [x, y].reverse) (hC : 0 < [x, y].length → w1.heap.size < W.heap.size) => spec_l6Push ts [x, y] s g cap w1.heap.size 2 W hA hB (by omega) (by simp) hC
  simp only [hN] at hP
  have hTA : Todo (w1.drew.alloc (Obj.cells #[.string y.text, .string x.text] 9)) g ts := ((hr.grown HM.b).drew).grown hbA
  have h0 : (w1.drew.alloc (Obj.cells #[.string y.text, .string x.text] 9)).heap[w1.heap.size]? = some (.cells #[.string y.text, .string x.text] 9 (0, 0)) := heap_alloc_new w1.drew _
  refine wpAnyH_ready (rs := [7]) (by kernel_rfl) (by simp) ?_
  refine AllReadyH.cons rfl (fun K hK => ?_) AllReadyH.nil
  rw [if_pos (by rfl)]
  unfold Oper.wp
  go_simp
  refine hK.out _ (w1.drew.alloc (Obj.cells #[.string y.text, .string x.text] 9)) ?_ (fun hS1 => ?_)
  · exact ⟨hS.1.grown hbA, cell_grown hS.2.1 hbA, cell_grown hS.2.2 hbA⟩
  clear hK K
  replace hS := hS1
  clear hS1
  try simp only [Act.put, List.getElem_toArray, List.getElem_cons_succ, List.getElem_cons_zero, List.setIfInBounds_toArray, List.set_cons_zero, List.set_cons_succ]
  refine wpAnyH_ready (rs := [8]) (by kernel_rfl) (by simp) ?_
  refine AllReadyH.cons rfl (fun K hK => ?_) AllReadyH.nil
  rw [if_pos (by rfl)]
  refine op_call 53 _ _ rfl (enters_of Tryz.func53 (by kernel_rfl) rfl) _ (hP (w1.drew.alloc (Obj.cells #[.string y.text, .string x.text] 9)) hTA ?tx (by simp)) rfl ?_
  case tx =>
    intro j z hj
    obtain rfl | rfl | h2 : j = 0 ∨ j = 1 ∨ 2 ≤ j := by omega
    · simp at hj; subst hj; exact (cell_of_row _ _ 0 _ _ _ h0).trans rfl
    · simp at hj; subst hj; exact (cell_of_row _ _ 1 _ _ _ h0).trans rfl
    · rw [List.getElem?_eq_none (by simp; omega)] at hj; cases hj
  rintro e w2 ⟨g2, cap2, rfl, hT2, hc2, hg2, hb2⟩
  have HM2 := (HMd.grown hbA).grown hb2
  refine ⟨_, rfl, ?_⟩
  refine hK.out _ _ ?_ (fun hS1 => ?_)
  · exact ⟨hS.1.grown hb2, cell_grown hS.2.1 hb2, cell_grown hS.2.2 hb2⟩
  clear hK K
  replace hS := hS1
  clear hS1
  try simp only [Act.put, List.getElem_toArray, List.getElem_cons_succ, List.getElem_cons_zero, List.setIfInBounds_toArray, List.set_cons_zero, List.set_cons_succ]
  refine wpAnyH_ready (rs := [9]) (by kernel_rfl) (by simp) ?_
  refine AllReadyH.cons rfl (fun K hK => ?_) AllReadyH.nil
  rw [if_pos (by rfl)]
  refine op_store_Blk _ _ _ rfl (w.heap.size + 1) rfl rfl HM2.z at_i rfl (by simp [Value.oneCell']) ?_
  refine hK.out _ _ ?_ (fun hS1 => ?_)
  · exact ⟨hS.1.setRowOther _ _ (by omega), cell_kept hS.2.1 (setRow_other _ _ _ _ hne), cell_kept hS.2.2 (setRow_other _ _ _ _ hne)⟩
  clear hK K
  replace hS := hS1
  clear hS1
  try simp only [Act.put, List.getElem_toArray, List.getElem_cons_succ, List.getElem_cons_zero, List.setIfInBounds_toArray, List.set_cons_zero, List.set_cons_succ]
  refine wpAnyH_take (i := 10) (v := .string ⟨#[]⟩) rfl (by kernel_rfl) (by kernel_rfl) (by kernel_rfl) (fun _ _ _ h => h) (Or.inl ⟨by rfl, ?_⟩) hS ?_
  · intro w hSw
    go_simp
  simp only [Act.put, List.getElem_toArray, List.getElem_cons_succ, List.getElem_cons_zero, List.setIfInBounds_toArray, List.set_cons_zero, List.set_cons_succ]
  refine wpAnyH_done (by kernel_rfl) ?_ _
  go_wp2_with fail
  refine ret_Blk2 rfl (w.heap.size + 1) rfl (HM2.z.setRow _) hu rfl at_i rfl ⟨below_setRow HM2.b (by omega) _, ?_⟩
  show ∃ g2 cap2, _ ∧ _ ∧ _
  refine ⟨g2, cap2, by rw [← hN]; rfl, ⟨fun j z hj => ?_⟩, hc2⟩
  have hzl := HM.z.lt
  have hg3 : w1.heap.size ≤ g2 := by have h := hg2; simp at h; omega
  exact cell_kept (hT2.lies j z hj) (setRow_other _ _ _ _ (by omega))

theorem spec_mv105true (d : List Int) (x y : Ct) (hnd : d.length = 1) (ts : List Ct) (s : Nat) (hs : s < 4) (g cap : Nat) (w : World) (ht : (Ct.n2 105 d x y).WF) (hlen : (Ct.n2 105 d x y).len ≤ 200) (hT : Todo w g (Ct.n2 105 d x y :: ts)) (hn : ts.length ≤ 100000) (hcap : ts.length + 1 ≤ cap) (hh : has (dsF d 0) s = true) :
    Calls Tryz.prog 46 #[.agg #[.slice (some ⟨g, 0, none⟩) (ts.length + 1) cap, .int .i64 s]] w (Moved (Ct.n2 105 d x y) s ts g cap w) := by
  obtain ⟨fs, hu⟩ := at_u
  have hl := hT.last
  have hr := hT.rest
  have hop := op_text (Ct.n2 105 d x y)
  have hb0 : ((bt (Ct.n2 105 d x y).text 0).toNat : Int) = 105 := by rw [hop]; rfl
  have hs0 : 0 < (Ct.n2 105 d x y).text.size := by rw [Ct.text_size]; exact (Ct.n2 105 d x y).len_pos
  have hs1 : 1 + 1 ≤ (Ct.n2 105 d x y).text.size := by rw [Ct.text_size]; have := (Ct.n2 105 d x y).len_head; rw [show (Ct.n2 105 d x y).ds.length = 1 from hnd] at this; exact this
  have HPARTS : ∀ W : World, Calls Tryz.prog 52 #[.string (Ct.n2 105 d x y).text] W fun e w' => (∃ g cap, e = .returned (.slice (some ⟨g, 0, none⟩) (Ct.n2 105 d x y).parts.length cap) ∧ TextsAt w' g (Ct.n2 105 d x y).parts) ∧ Below W.heap.size W w' := fun W => spec_l5Parts (Ct.n2 105 d x y) ht hlen W
  have HM0 := MvS.mk0 w ts.length g cap s
  have HLN : Hid (ts.length = ts.length) := rfl
  have HD : Hid (hx (bt (Ct.n2 105 d x y).text 1) = dsF d 0) := dig_ext ht hnd
  clear hop
  generalize hN : ts.length = n at *
  generalize hTX : (Ct.n2 105 d x y).text = T at *
  have HTX := Lib.hid hTX
  clear hTX
  have hs2 : 1 + 1 ≤ T.size → 1 ≤ 1 → ¬ ((T.size : Int) ≤ 1) := fun _ _ => by omega
  have hs3 := hs2 hs1
  clear hs2
  have hl' : ∀ o p, ((w.alloc o).alloc p).cell? ⟨g, n, none⟩ = some (.string T) := fun o p => cell_grown hl (below_new (below_new (Below.refl _ _) _) _)
  go_enter Tryz.func46, Tryz.ntmps46
  go_wp2_with fail
  go_region
  generalize (((w.alloc (Obj.cells #[.slice (some ⟨g, 0, none⟩) (n + 1) cap, .int .i64 s] 38)).alloc (Obj.cells #[.slice none 0 0, .int .i64 0] 38)).alloc (Obj.cells #[.slice (some ⟨g, 0, none⟩) n cap, .int .i64 s] 38)).drew = W0 at *
  go_wp2_with fail
  refine (HPARTS _).mono ?_
  rintro e w1 ⟨⟨g', cap', rfl, hg'⟩, hb1⟩
  have HM := HM0.grown hb1
  clear HPARTS HM0
  have hs4 := hs3 (by decide)
  clear hs3
  have HH := Lib.hid hh
  clear hh
  have e5 : (Ct.n2 105 d x y).parts.length = 2 := rfl
  rw [e5]
  go_wp2_with fail
  refine wp_region_held_drew (S := fun W => MvS w W n g cap s) (by kernel_rfl) ?_ (fun hS => ?_)
  · exact HM.drew
  refine wpAnyH_take (i := 0) (v := .string T) rfl (by kernel_rfl) (by kernel_rfl) (by kernel_rfl) (fun _ _ _ h => h) (Or.inl ⟨by rfl, ?_⟩) hS ?_
  · intro w hSw
    go_simp
  simp only [Act.put, List.getElem_toArray, List.getElem_cons_succ, List.getElem_cons_zero, List.setIfInBounds_toArray, List.set_cons_zero, List.set_cons_succ]
  refine wpAnyH_take (i := 1) (v := .int .u8 ((bt T 1).toNat : Int)) rfl (by kernel_rfl) (by kernel_rfl) (by kernel_rfl) (fun _ _ _ h => h) (Or.inl ⟨by rfl, ?_⟩) hS ?_
  · intro w hSw
    go_simp
  simp only [Act.put, List.getElem_toArray, List.getElem_cons_succ, List.getElem_cons_zero, List.setIfInBounds_toArray, List.set_cons_zero, List.set_cons_succ]
  refine wpAnyH_take (i := 3) (v := .pointer (some ⟨w.heap.size, 1, none⟩)) rfl (by kernel_rfl) (by kernel_rfl) (by kernel_rfl) (fun _ _ _ h => h) (Or.inl ⟨by rfl, ?_⟩) hS ?_
  · intro w hSw
    go_simp
  simp only [Act.put, List.getElem_toArray, List.getElem_cons_succ, List.getElem_cons_zero, List.setIfInBounds_toArray, List.set_cons_zero, List.set_cons_succ]
  refine wpAnyH_take (i := 4) (v := .int .i64 s) rfl (by kernel_rfl) (by kernel_rfl) (by kernel_rfl) (fun _ _ _ h => h) (Or.inl ⟨by rfl, ?_⟩) hS ?_
  · rintro W hSw
    have h7 := hSw.a.cell2.2
    clear hSw
    go_simp
  simp only [Act.put, List.getElem_toArray, List.getElem_cons_succ, List.getElem_cons_zero, List.setIfInBounds_toArray, List.set_cons_zero, List.set_cons_succ]
  refine wpAnyH_ready (rs := [2]) (by kernel_rfl) (by simp) ?_
  refine AllReadyH.cons rfl (fun K hK => ?_) AllReadyH.nil
  rw [if_pos (by rfl)]
  refine op_call 72 _ _ rfl (enters_of Tryz.func72 (by kernel_rfl) rfl) _ (spec_l2Hex _ _) rfl ?_
  rintro e w3 ⟨rfl, rfl⟩
  refine ⟨_, rfl, ?_⟩
  refine hK.out _ _ ?_ (fun hS1 => ?_)
  · exact hS
  clear hK K
  replace hS := hS1
  clear hS1
  simp only [Act.put, List.getElem_toArray, List.getElem_cons_succ, List.getElem_cons_zero, List.setIfInBounds_toArray, List.set_cons_zero, List.set_cons_succ]
  rw [HD.out]
  refine wpAnyH_ready (rs := [5]) (by kernel_rfl) (by simp) ?_
  refine AllReadyH.cons rfl (fun K hK => ?_) AllReadyH.nil
  rw [if_pos (by rfl)]
  refine op_call 47 _ _ rfl (enters_of Tryz.func47 (by kernel_rfl) rfl) _ (spec_l1Has _ s _ (by omega)) rfl ?_
  rintro e w4 ⟨rfl, rfl⟩
  refine ⟨_, rfl, ?_⟩
  refine hK.out _ _ ?_ (fun hS1 => ?_)
  · exact hS
  clear hK K
  replace hS := hS1
  clear hS1
  simp only [Act.put, List.getElem_toArray, List.getElem_cons_succ, List.getElem_cons_zero, List.setIfInBounds_toArray, List.set_cons_zero, List.set_cons_succ]
  rw [HH.out]
  refine wpAnyH_done (by kernel_rfl) ?_ _
  replace HM := hS
  replace hg' : TextsAt w1.drew g' (Ct.n2 105 d x y).parts := hg'
  clear hS
  generalize w1.drew = w1 at *
  have c0 := hg' 0 x rfl
  have c1 := hg' 1 y rfl
  have hne : g' ≠ w.heap.size + 1 := by rintro rfl; have h := HM.z.cell2.1; rw [c0] at h; cases h
  go_wp2_with fail
  refine wp_region_held_drew (S := fun W => Blk W (w.heap.size + 1 + 1) 38 #[.slice (some ⟨g, 0, none⟩) n cap, .int .i64 s] ∧ W.cell? ⟨g', 0, none⟩ = some (.string x.text) ∧ W.cell? ⟨g', 1, none⟩ = some (.string y.text)) (by kernel_rfl) ?_ (fun hS => ?_)
  · exact ⟨HM.r.drew, c0, c1⟩
  refine wpAnyH_take (i := 0) (v := .agg #[.slice (some ⟨g, 0, none⟩) n cap, .int .i64 s]) rfl (by kernel_rfl) (by kernel_rfl) (by kernel_rfl) (fun _ _ _ h => h) (yields_Blk (by rfl) _ _ rfl (w.heap.size + 1 + 1) rfl (fun _ h => h.1) hu rfl at_i) hS ?_
  simp only [Act.put, List.getElem_toArray, List.getElem_cons_succ, List.getElem_cons_zero, List.setIfInBounds_toArray, List.set_cons_zero, List.set_cons_succ]
  refine wpAnyH_take (i := 1) (v := .slice (some ⟨g', 0, none⟩) 2 cap') rfl (by kernel_rfl) (by kernel_rfl) (by kernel_rfl) (fun _ _ _ h => h) (Or.inl ⟨by rfl, ?_⟩) hS ?_
  · intro w hSw
    go_simp
  simp only [Act.put, List.getElem_toArray, List.getElem_cons_succ, List.getElem_cons_zero, List.setIfInBounds_toArray, List.set_cons_zero, List.set_cons_succ]
  refine wpAnyH_take (i := 2) (v := .pointer (some ⟨g', 0, none⟩)) rfl (by kernel_rfl) (by kernel_rfl) (by kernel_rfl) (fun _ _ _ h => h) (Or.inl ⟨by rfl, ?_⟩) hS ?_
  · intro w hSw
    go_simp
  simp only [Act.put, List.getElem_toArray, List.getElem_cons_succ, List.getElem_cons_zero, List.setIfInBounds_toArray, List.set_cons_zero, List.set_cons_succ]
  refine wpAnyH_take (i := 3) (v := .string x.text) rfl (by kernel_rfl) (by kernel_rfl) (by kernel_rfl) (fun _ _ _ h => h) (Or.inl ⟨by rfl, ?_⟩) hS ?_
  · rintro w ⟨c9, c0, c1⟩
    go_simp
  simp only [Act.put, List.getElem_toArray, List.getElem_cons_succ, List.getElem_cons_zero, List.setIfInBounds_toArray, List.set_cons_zero, List.set_cons_succ]
  have HMd := HM.drew
  have hbA : Below w1.drew.heap.size w1.drew (w1.drew.alloc (Obj.cells #[.string x.text] 9)) := below_new (Below.refl _ _) _
  have hP := fun (W : World) (hA : Todo W g ts) (hB : TextsAt W w1.heap.size [x].reverse) (hC : 0 < [x].length → w1.heap.size < W.heap.size) => spec_l6Push ts [x] s g cap w1.heap.size 1 W hA hB (by omega) (by simp) hC
  simp only [hN] at hP
  have hTA : Todo (w1.drew.alloc (Obj.cells #[.string x.text] 9)) g ts := ((hr.grown HM.b).drew).grown hbA
  have h0 : (w1.drew.alloc (Obj.cells #[.string x.text] 9)).heap[w1.heap.size]? = some (.cells #[.string x.text] 9 (0, 0)) := heap_alloc_new w1.drew _
  refine wpAnyH_ready (rs := [4]) (by kernel_rfl) (by simp) ?_
  refine AllReadyH.cons rfl (fun K hK => ?_) AllReadyH.nil
  rw [if_pos (by rfl)]
  unfold Oper.wp
  go_simp
  refine hK.out _ (w1.drew.alloc (Obj.cells #[.string x.text] 9)) ?_ (fun hS1 => ?_)
  · exact ⟨hS.1.grown hbA, cell_grown hS.2.1 hbA, cell_grown hS.2.2 hbA⟩
  clear hK K
  replace hS := hS1
  clear hS1
  try simp only [Act.put, List.getElem_toArray, List.getElem_cons_succ, List.getElem_cons_zero, List.setIfInBounds_toArray, List.set_cons_zero, List.set_cons_succ]
  refine wpAnyH_ready (rs := [5]) (by kernel_rfl) (by simp) ?_
  refine AllReadyH.cons rfl (fun K hK => ?_) AllReadyH.nil
  rw [if_pos (by rfl)]
  refine op_call 53 _ _ rfl (enters_of Tryz.func53 (by kernel_rfl) rfl) _ (hP (w1.drew.alloc (Obj.cells #[.string x.text] 9)) hTA ?tx (by simp)) rfl ?_
  case tx =>
    intro j z hj
    obtain rfl | rfl | h2 : j = 0 ∨ j = 1 ∨ 2 ≤ j := by omega
    · simp at hj; subst hj; exact (cell_of_row _ _ 0 _ _ _ h0).trans rfl
    · simp at hj
    · rw [List.getElem?_eq_none (by simp; omega)] at hj; cases hj
  rintro e w2 ⟨g2, cap2, rfl, hT2, hc2, hg2, hb2⟩
  have HM2 := (HMd.grown hbA).grown hb2
  refine ⟨_, rfl, ?_⟩
  refine hK.out _ _ ?_ (fun hS1 => ?_)
  · exact ⟨hS.1.grown hb2, cell_grown hS.2.1 hb2, cell_grown hS.2.2 hb2⟩
  clear hK K
  replace hS := hS1
  clear hS1
  try simp only [Act.put, List.getElem_toArray, List.getElem_cons_succ, List.getElem_cons_zero, List.setIfInBounds_toArray, List.set_cons_zero, List.set_cons_succ]
  refine wpAnyH_ready (rs := [6]) (by kernel_rfl) (by simp) ?_
  refine AllReadyH.cons rfl (fun K hK => ?_) AllReadyH.nil
  rw [if_pos (by rfl)]
  refine op_store_Blk _ _ _ rfl (w.heap.size + 1) rfl rfl HM2.z at_i rfl (by simp [Value.oneCell']) ?_
  refine hK.out _ _ ?_ (fun hS1 => ?_)
  · exact ⟨hS.1.setRowOther _ _ (by omega), cell_kept hS.2.1 (setRow_other _ _ _ _ hne), cell_kept hS.2.2 (setRow_other _ _ _ _ hne)⟩
  clear hK K
  replace hS := hS1
  clear hS1
  try simp only [Act.put, List.getElem_toArray, List.getElem_cons_succ, List.getElem_cons_zero, List.setIfInBounds_toArray, List.set_cons_zero, List.set_cons_succ]
  refine wpAnyH_take (i := 7) (v := .string ⟨#[]⟩) rfl (by kernel_rfl) (by kernel_rfl) (by kernel_rfl) (fun _ _ _ h => h) (Or.inl ⟨by rfl, ?_⟩) hS ?_
  · intro w hSw
    go_simp
  simp only [Act.put, List.getElem_toArray, List.getElem_cons_succ, List.getElem_cons_zero, List.setIfInBounds_toArray, List.set_cons_zero, List.set_cons_succ]
  refine wpAnyH_done (by kernel_rfl) ?_ _
  go_wp2_with fail
  refine ret_Blk2 rfl (w.heap.size + 1) rfl (HM2.z.setRow _) hu rfl at_i rfl ⟨below_setRow HM2.b (by omega) _, ?_⟩
  have e9 : (Ct.n2 105 d x y).next s = .go [x] := by show (if has (dsF d 0) s then Nx.go [x] else Nx.go [y]) = _; rw [HH.out]; rfl
  rw [e9]
  refine ⟨g2, cap2, by rw [← hN]; rfl, ⟨fun j z hj => ?_⟩, hc2⟩
  have hzl := HM.z.lt
  have hg3 : w1.heap.size ≤ g2 := by have h := hg2; simp at h; omega
  exact cell_kept (hT2.lies j z hj) (setRow_other _ _ _ _ (by omega))

theorem spec_mv105false (d : List Int) (x y : Ct) (hnd : d.length = 1) (ts : List Ct) (s : Nat) (hs : s < 4) (g cap : Nat) (w : World) (ht : (Ct.n2 105 d x y).WF) (hlen : (Ct.n2 105 d x y).len ≤ 200) (hT : Todo w g (Ct.n2 105 d x y :: ts)) (hn : ts.length ≤ 100000) (hcap : ts.length + 1 ≤ cap) (hh : has (dsF d 0) s = false) :
    Calls Tryz.prog 46 #[.agg #[.slice (some ⟨g, 0, none⟩) (ts.length + 1) cap, .int .i64 s]] w (Moved (Ct.n2 105 d x y) s ts g cap w) := by
  obtain ⟨fs, hu⟩ := at_u
  have hl := hT.last
  have hr := hT.rest
  have hop := op_text (Ct.n2 105 d x y)
  have hb0 : ((bt (Ct.n2 105 d x y).text 0).toNat : Int) = 105 := by rw [hop]; rfl
  have hs0 : 0 < (Ct.n2 105 d x y).text.size := by rw [Ct.text_size]; exact (Ct.n2 105 d x y).len_pos
  have hs1 : 1 + 1 ≤ (Ct.n2 105 d x y).text.size := by rw [Ct.text_size]; have := (Ct.n2 105 d x y).len_head; rw [show (Ct.n2 105 d x y).ds.length = 1 from hnd] at this; exact this
  have HPARTS : ∀ W : World, Calls Tryz.prog 52 #[.string (Ct.n2 105 d x y).text] W fun e w' => (∃ g cap, e = .returned (.slice (some ⟨g, 0, none⟩) (Ct.n2 105 d x y).parts.length cap) ∧ TextsAt w' g (Ct.n2 105 d x y).parts) ∧ Below W.heap.size W w' := fun W => spec_l5Parts (Ct.n2 105 d x y) ht hlen W
  have HM0 := MvS.mk0 w ts.length g cap s
  have HLN : Hid (ts.length = ts.length) := rfl
  have HD : Hid (hx (bt (Ct.n2 105 d x y).text 1) = dsF d 0) := dig_ext ht hnd
  clear hop
  generalize hN : ts.length = n at *
  generalize hTX : (Ct.n2 105 d x y).text = T at *
  have HTX := Lib.hid hTX
  clear hTX
  have hs2 : 1 + 1 ≤ T.size → 1 ≤ 1 → ¬ ((T.size : Int) ≤ 1) := fun _ _ => by omega
  have hs3 := hs2 hs1
  clear hs2
  have hl' : ∀ o p, ((w.alloc o).alloc p).cell? ⟨g, n, none⟩ = some (.string T) := fun o p => cell_grown hl (below_new (below_new (Below.refl _ _) _) _)
  go_enter Tryz.func46, Tryz.ntmps46
  go_wp2_with fail
  go_region
  generalize (((w.alloc (Obj.cells #[.slice (some ⟨g, 0, none⟩) (n + 1) cap, .int .i64 s] 38)).alloc (Obj.cells #[.slice none 0 0, .int .i64 0] 38)).alloc (Obj.cells #[.slice (some ⟨g, 0, none⟩) n cap, .int .i64 s] 38)).drew = W0 at *
  go_wp2_with fail
  refine (HPARTS _).mono ?_
  rintro e w1 ⟨⟨g', cap', rfl, hg'⟩, hb1⟩
  have HM := HM0.grown hb1
  clear HPARTS HM0
  have hs4 := hs3 (by decide)
  clear hs3
  have HH := Lib.hid hh
  clear hh
  have e5 : (Ct.n2 105 d x y).parts.length = 2 := rfl
  rw [e5]
  go_wp2_with fail
  refine wp_region_held_drew (S := fun W => MvS w W n g cap s) (by kernel_rfl) ?_ (fun hS => ?_)
  · exact HM.drew
  refine wpAnyH_take (i := 0) (v := .string T) rfl (by kernel_rfl) (by kernel_rfl) (by kernel_rfl) (fun _ _ _ h => h) (Or.inl ⟨by rfl, ?_⟩) hS ?_
  · intro w hSw
    go_simp
  simp only [Act.put, List.getElem_toArray, List.getElem_cons_succ, List.getElem_cons_zero, List.setIfInBounds_toArray, List.set_cons_zero, List.set_cons_succ]
  refine wpAnyH_take (i := 1) (v := .int .u8 ((bt T 1).toNat : Int)) rfl (by kernel_rfl) (by kernel_rfl) (by kernel_rfl) (fun _ _ _ h => h) (Or.inl ⟨by rfl, ?_⟩) hS ?_
  · intro w hSw
    go_simp
  simp only [Act.put, List.getElem_toArray, List.getElem_cons_succ, List.getElem_cons_zero, List.setIfInBounds_toArray, List.set_cons_zero, List.set_cons_succ]
  refine wpAnyH_take (i := 3) (v := .pointer (some ⟨w.heap.size, 1, none⟩)) rfl (by kernel_rfl) (by kernel_rfl) (by kernel_rfl) (fun _ _ _ h => h) (Or.inl ⟨by rfl, ?_⟩) hS ?_
  · intro w hSw
    go_simp
  simp only [Act.put, List.getElem_toArray, List.getElem_cons_succ, List.getElem_cons_zero, List.setIfInBounds_toArray, List.set_cons_zero, List.set_cons_succ]
  refine wpAnyH_take (i := 4) (v := .int .i64 s) rfl (by kernel_rfl) (by kernel_rfl) (by kernel_rfl) (fun _ _ _ h => h) (Or.inl ⟨by rfl, ?_⟩) hS ?_
  · rintro W hSw
    have h7 := hSw.a.cell2.2
    clear hSw
    go_simp
  simp only [Act.put, List.getElem_toArray, List.getElem_cons_succ, List.getElem_cons_zero, List.setIfInBounds_toArray, List.set_cons_zero, List.set_cons_succ]
  refine wpAnyH_ready (rs := [2]) (by kernel_rfl) (by simp) ?_
  refine AllReadyH.cons rfl (fun K hK => ?_) AllReadyH.nil
  rw [if_pos (by rfl)]
  refine op_call 72 _ _ rfl (enters_of Tryz.func72 (by kernel_rfl) rfl) _ (spec_l2Hex _ _) rfl ?_
  rintro e w3 ⟨rfl, rfl⟩
  refine ⟨_, rfl, ?_⟩
  refine hK.out _ _ ?_ (fun hS1 => ?_)
  · exact hS
  clear hK K
  replace hS := hS1
  clear hS1
  simp only [Act.put, List.getElem_toArray, List.getElem_cons_succ, List.getElem_cons_zero, List.setIfInBounds_toArray, List.set_cons_zero, List.set_cons_succ]
  rw [HD.out]
  refine wpAnyH_ready (rs := [5]) (by kernel_rfl) (by simp) ?_
  refine AllReadyH.cons rfl (fun K hK => ?_) AllReadyH.nil
  rw [if_pos (by rfl)]
  refine op_call 47 _ _ rfl (enters_of Tryz.func47 (by kernel_rfl) rfl) _ (spec_l1Has _ s _ (by omega)) rfl ?_
  rintro e w4 ⟨rfl, rfl⟩
  refine ⟨_, rfl, ?_⟩
  refine hK.out _ _ ?_ (fun hS1 => ?_)
  · exact hS
  clear hK K
  replace hS := hS1
  clear hS1
  simp only [Act.put, List.getElem_toArray, List.getElem_cons_succ, List.getElem_cons_zero, List.setIfInBounds_toArray, List.set_cons_zero, List.set_cons_succ]
  rw [HH.out]
  refine wpAnyH_done (by kernel_rfl) ?_ _
  replace HM := hS
  replace hg' : TextsAt w1.drew g' (Ct.n2 105 d x y).parts := hg'
  clear hS
  generalize w1.drew = w1 at *
  have c0 := hg' 0 x rfl
  have c1 := hg' 1 y rfl
  have hne : g' ≠ w.heap.size + 1 := by rintro rfl; have h := HM.z.cell2.1; rw [c0] at h; cases h
  go_wp2_with fail
  refine wp_region_held_drew (S := fun W => Blk W (w.heap.size + 1 + 1) 38 #[.slice (some ⟨g, 0, none⟩) n cap, .int .i64 s] ∧ W.cell? ⟨g', 0, none⟩ = some (.string x.text) ∧ W.cell? ⟨g', 1, none⟩ = some (.string y.text)) (by kernel_rfl) ?_ (fun hS => ?_)
  · exact ⟨HM.r.drew, c0, c1⟩
  refine wpAnyH_take (i := 0) (v := .agg #[.slice (some ⟨g, 0, none⟩) n cap, .int .i64 s]) rfl (by kernel_rfl) (by kernel_rfl) (by kernel_rfl) (fun _ _ _ h => h) (yields_Blk (by rfl) _ _ rfl (w.heap.size + 1 + 1) rfl (fun _ h => h.1) hu rfl at_i) hS ?_
  simp only [Act.put, List.getElem_toArray, List.getElem_cons_succ, List.getElem_cons_zero, List.setIfInBounds_toArray, List.set_cons_zero, List.set_cons_succ]
  refine wpAnyH_take (i := 1) (v := .slice (some ⟨g', 0, none⟩) 2 cap') rfl (by kernel_rfl) (by kernel_rfl) (by kernel_rfl) (fun _ _ _ h => h) (Or.inl ⟨by rfl, ?_⟩) hS ?_
  · intro w hSw
    go_simp
  simp only [Act.put, List.getElem_toArray, List.getElem_cons_succ, List.getElem_cons_zero, List.setIfInBounds_toArray, List.set_cons_zero, List.set_cons_succ]
  refine wpAnyH_take (i := 2) (v := .pointer (some ⟨g', 1, none⟩)) rfl (by kernel_rfl) (by kernel_rfl) (by kernel_rfl) (fun _ _ _ h => h) (Or.inl ⟨by rfl, ?_⟩) hS ?_
  · intro w hSw
    go_simp
  simp only [Act.put, List.getElem_toArray, List.getElem_cons_succ, List.getElem_cons_zero, List.setIfInBounds_toArray, List.set_cons_zero, List.set_cons_succ]
  refine wpAnyH_take (i := 3) (v := .string y.text) rfl (by kernel_rfl) (by kernel_rfl) (by kernel_rfl) (fun _ _ _ h => h) (Or.inl ⟨by rfl, ?_⟩) hS ?_
  · rintro w ⟨c9, c0, c1⟩
    go_simp
  simp only [Act.put, List.getElem_toArray, List.getElem_cons_succ, List.getElem_cons_zero, List.setIfInBounds_toArray, List.set_cons_zero, List.set_cons_succ]
  have HMd := HM.drew
  have hbA : Below w1.drew.heap.size w1.drew (w1.drew.alloc (Obj.cells #[.string y.text] 9)) := below_new (Below.refl _ _) _
  have hP := fun (W : World) (hA : Todo W g ts) (hB : TextsAt W w1.heap.size [y].reverse) (hC : 0 < [y].length → w1.heap.size < W.heap.size) => spec_l6Push ts [y] s g cap w1.heap.size 1 W hA hB (by omega) (by simp) hC
  simp only [hN] at hP
  have hTA : Todo (w1.drew.alloc (Obj.cells #[.string y.text] 9)) g ts := ((hr.grown HM.b).drew).grown hbA
  have h0 : (w1.drew.alloc (Obj.cells #[.string y.text] 9)).heap[w1.heap.size]? = some (.cells #[.string y.text] 9 (0, 0)) := heap_alloc_new w1.drew _
  refine wpAnyH_ready (rs := [4]) (by kernel_rfl) (by simp) ?_
  refine AllReadyH.cons rfl (fun K hK => ?_) AllReadyH.nil
  rw [if_pos (by rfl)]
  unfold Oper.wp
  go_simp
  refine hK.out _ (w1.drew.alloc (Obj.cells #[.string y.text] 9)) ?_ (fun hS1 => ?_)
  · exact ⟨hS.1.grown hbA, cell_grown hS.2.1 hbA, cell_grown hS.2.2 hbA⟩
  clear hK K
  replace hS := hS1
  clear hS1
  try simp only [Act.put, List.getElem_toArray, List.getElem_cons_succ, List.getElem_cons_zero, List.setIfInBounds_toArray, List.set_cons_zero, List.set_cons_succ]
  refine wpAnyH_ready (rs := [5]) (by kernel_rfl) (by simp) ?_
  refine AllReadyH.cons rfl (fun K hK => ?_) AllReadyH.nil
  rw [if_pos (by rfl)]
  refine op_call 53 _ _ rfl (enters_of Tryz.func53 (by kernel_rfl) rfl) _ (hP (w1.drew.alloc (Obj.cells #[.string y.text] 9)) hTA ?tx (by simp)) rfl ?_
  case tx =>
    intro j z hj
    obtain rfl | rfl | h2 : j = 0 ∨ j = 1 ∨ 2 ≤ j := by omega
    · simp at hj; subst hj; exact (cell_of_row _ _ 0 _ _ _ h0).trans rfl
    · simp at hj
    · rw [List.getElem?_eq_none (by simp; omega)] at hj; cases hj
  rintro e w2 ⟨g2, cap2, rfl, hT2, hc2, hg2, hb2⟩
  have HM2 := (HMd.grown hbA).grown hb2
  refine ⟨_, rfl, ?_⟩
  refine hK.out _ _ ?_ (fun hS1 => ?_)
  · exact ⟨hS.1.grown hb2, cell_grown hS.2.1 hb2, cell_grown hS.2.2 hb2⟩
  clear hK K
  replace hS := hS1
  clear hS1
  try simp only [Act.put, List.getElem_toArray, List.getElem_cons_succ, List.getElem_cons_zero, List.setIfInBounds_toArray, List.set_cons_zero, List.set_cons_succ]
  refine wpAnyH_ready (rs := [6]) (by kernel_rfl) (by simp) ?_
  refine AllReadyH.cons rfl (fun K hK => ?_) AllReadyH.nil
  rw [if_pos (by rfl)]
  refine op_store_Blk _ _ _ rfl (w.heap.size + 1) rfl rfl HM2.z at_i rfl (by simp [Value.oneCell']) ?_
  refine hK.out _ _ ?_ (fun hS1 => ?_)
  · exact ⟨hS.1.setRowOther _ _ (by omega), cell_kept hS.2.1 (setRow_other _ _ _ _ hne), cell_kept hS.2.2 (setRow_other _ _ _ _ hne)⟩
  clear hK K
  replace hS := hS1
  clear hS1
  try simp only [Act.put, List.getElem_toArray, List.getElem_cons_succ, List.getElem_cons_zero, List.setIfInBounds_toArray, List.set_cons_zero, List.set_cons_succ]
  refine wpAnyH_take (i := 7) (v := .string ⟨#[]⟩) rfl (by kernel_rfl) (by kernel_rfl) (by kernel_rfl) (fun _ _ _ h => h) (Or.inl ⟨by rfl, ?_⟩) hS ?_
  · intro w hSw
    go_simp
  simp only [Act.put, List.getElem_toArray, List.getElem_cons_succ, List.getElem_cons_zero, List.setIfInBounds_toArray, List.set_cons_zero, List.set_cons_succ]
  refine wpAnyH_done (by kernel_rfl) ?_ _
  go_wp2_with fail
  refine ret_Blk2 rfl (w.heap.size + 1) rfl (HM2.z.setRow _) hu rfl at_i rfl ⟨below_setRow HM2.b (by omega) _, ?_⟩
  have e9 : (Ct.n2 105 d x y).next s = .go [y] := by show (if has (dsF d 0) s then Nx.go [x] else Nx.go [y]) = _; rw [HH.out]; rfl
  rw [e9]
  refine ⟨g2, cap2, by rw [← hN]; rfl, ⟨fun j z hj => ?_⟩, hc2⟩
  have hzl := HM.z.lt
  have hg3 : w1.heap.size ≤ g2 := by have h := hg2; simp at h; omega
  exact cell_kept (hT2.lies j z hj) (setRow_other _ _ _ _ (by omega))

theorem spec_mv119true (d : List Int) (x : Ct) (hnd : d.length = 1) (ts : List Ct) (s : Nat) (hs : s < 4) (g cap : Nat) (w : World) (ht : (Ct.n1 119 d x).WF) (hlen : (Ct.n1 119 d x).len ≤ 200) (hT : Todo w g (Ct.n1 119 d x :: ts)) (hn : ts.length ≤ 100000) (hcap : ts.length + 1 ≤ cap) (hh : has (dsF d 0) s = true) :
    Calls Tryz.prog 46 #[.agg #[.slice (some ⟨g, 0, none⟩) (ts.length + 1) cap, .int .i64 s]] w (Moved (Ct.n1 119 d x) s ts g cap w) := by
  obtain ⟨fs, hu⟩ := at_u
  have hl := hT.last
  have hr := hT.rest
  have hop := op_text (Ct.n1 119 d x)
  have hb0 : ((bt (Ct.n1 119 d x).text 0).toNat : Int) = 119 := by rw [hop]; rfl
  have hs0 : 0 < (Ct.n1 119 d x).text.size := by rw [Ct.text_size]; exact (Ct.n1 119 d x).len_pos
  have hs1 : 1 + 1 ≤ (Ct.n1 119 d x).text.size := by rw [Ct.text_size]; have := (Ct.n1 119 d x).len_head; rw [show (Ct.n1 119 d x).ds.length = 1 from hnd] at this; exact this
  have HPARTS : ∀ W : World, Calls Tryz.prog 52 #[.string (Ct.n1 119 d x).text] W fun e w' => (∃ g cap, e = .returned (.slice (some ⟨g, 0, none⟩) (Ct.n1 119 d x).parts.length cap) ∧ TextsAt w' g (Ct.n1 119 d x).parts) ∧ Below W.heap.size W w' := fun W => spec_l5Parts (Ct.n1 119 d x) ht hlen W
  have HM0 := MvS.mk0 w ts.length g cap s
  have HLN : Hid (ts.length = ts.length) := rfl
  have HD : Hid (hx (bt (Ct.n1 119 d x).text 1) = dsF d 0) := dig_ext ht hnd
  clear hop
  generalize hN : ts.length = n at *
  generalize hTX : (Ct.n1 119 d x).text = T at *
  have HTX := Lib.hid hTX
  clear hTX
  have hs2 : 1 + 1 ≤ T.size → 1 ≤ 1 → ¬ ((T.size : Int) ≤ 1) := fun _ _ => by omega
  have hs3 := hs2 hs1
  clear hs2
  have hl' : ∀ o p, ((w.alloc o).alloc p).cell? ⟨g, n, none⟩ = some (.string T) := fun o p => cell_grown hl (below_new (below_new (Below.refl _ _) _) _)
  go_enter Tryz.func46, Tryz.ntmps46
  go_wp2_with fail
  go_region
  generalize (((w.alloc (Obj.cells #[.slice (some ⟨g, 0, none⟩) (n + 1) cap, .int .i64 s] 38)).alloc (Obj.cells #[.slice none 0 0, .int .i64 0] 38)).alloc (Obj.cells #[.slice (some ⟨g, 0, none⟩) n cap, .int .i64 s] 38)).drew = W0 at *
  go_wp2_with fail
  refine (HPARTS _).mono ?_
  rintro e w1 ⟨⟨g', cap', rfl, hg'⟩, hb1⟩
  have HM := HM0.grown hb1
  clear HPARTS HM0
  have hs4 := hs3 (by decide)
  clear hs3
  have HH := Lib.hid hh
  clear hh
  have e5 : (Ct.n1 119 d x).parts.length = 1 := rfl
  rw [e5]
  go_wp2_with fail
  refine wp_region_held_drew (S := fun W => MvS w W n g cap s) (by kernel_rfl) ?_ (fun hS => ?_)
  · exact HM.drew
  refine wpAnyH_take (i := 0) (v := .string T) rfl (by kernel_rfl) (by kernel_rfl) (by kernel_rfl) (fun _ _ _ h => h) (Or.inl ⟨by rfl, ?_⟩) hS ?_
  · intro w hSw
    go_simp
  simp only [Act.put, List.getElem_toArray, List.getElem_cons_succ, List.getElem_cons_zero, List.setIfInBounds_toArray, List.set_cons_zero, List.set_cons_succ]
  refine wpAnyH_take (i := 1) (v := .int .u8 ((bt T 1).toNat : Int)) rfl (by kernel_rfl) (by kernel_rfl) (by kernel_rfl) (fun _ _ _ h => h) (Or.inl ⟨by rfl, ?_⟩) hS ?_
  · intro w hSw
    go_simp
  simp only [Act.put, List.getElem_toArray, List.getElem_cons_succ, List.getElem_cons_zero, List.setIfInBounds_toArray, List.set_cons_zero, List.set_cons_succ]
  refine wpAnyH_take (i := 3) (v := .pointer (some ⟨w.heap.size, 1, none⟩)) rfl (by kernel_rfl) (by kernel_rfl) (by kernel_rfl) (fun _ _ _ h => h) (Or.inl ⟨by rfl, ?_⟩) hS ?_
  · intro w hSw
    go_simp
  simp only [Act.put, List.getElem_toArray, List.getElem_cons_succ, List.getElem_cons_zero, List.setIfInBounds_toArray, List.set_cons_zero, List.set_cons_succ]
  refine wpAnyH_take (i := 4) (v := .int .i64 s) rfl (by kernel_rfl) (by kernel_rfl) (by kernel_rfl) (fun _ _ _ h => h) (Or.inl ⟨by rfl, ?_⟩) hS ?_
  · rintro W hSw
    have h7 := hSw.a.cell2.2
    clear hSw
    go_simp
  simp only [Act.put, List.getElem_toArray, List.getElem_cons_succ, List.getElem_cons_zero, List.setIfInBounds_toArray, List.set_cons_zero, List.set_cons_succ]
  refine wpAnyH_ready (rs := [2]) (by kernel_rfl) (by simp) ?_
  refine AllReadyH.cons rfl (fun K hK => ?_) AllReadyH.nil
  rw [if_pos (by rfl)]
  refine op_call 72 _ _ rfl (enters_of Tryz.func72 (by kernel_rfl) rfl) _ (spec_l2Hex _ _) rfl ?_
  rintro e w3 ⟨rfl, rfl⟩
  refine ⟨_, rfl, ?_⟩
  refine hK.out _ _ ?_ (fun hS1 => ?_)
  · exact hS
  clear hK K
  replace hS := hS1
  clear hS1
  simp only [Act.put, List.getElem_toArray, List.getElem_cons_succ, List.getElem_cons_zero, List.setIfInBounds_toArray, List.set_cons_zero, List.set_cons_succ]
  rw [HD.out]
  refine wpAnyH_ready (rs := [5]) (by kernel_rfl) (by simp) ?_
  refine AllReadyH.cons rfl (fun K hK => ?_) AllReadyH.nil
  rw [if_pos (by rfl)]
  refine op_call 47 _ _ rfl (enters_of Tryz.func47 (by kernel_rfl) rfl) _ (spec_l1Has _ s _ (by omega)) rfl ?_
  rintro e w4 ⟨rfl, rfl⟩
  refine ⟨_, rfl, ?_⟩
  refine hK.out _ _ ?_ (fun hS1 => ?_)
  · exact hS
  clear hK K
  replace hS := hS1
  clear hS1
  simp only [Act.put, List.getElem_toArray, List.getElem_cons_succ, List.getElem_cons_zero, List.setIfInBounds_toArray, List.set_cons_zero, List.set_cons_succ]
  rw [HH.out]
  refine wpAnyH_done (by kernel_rfl) ?_ _
  replace HM := hS
  replace hg' : TextsAt w1.drew g' (Ct.n1 119 d x).parts := hg'
  clear hS
  generalize w1.drew = w1 at *
  have c0 := hg' 0 x rfl
  have hne : g' ≠ w.heap.size + 1 := by rintro rfl; have h := HM.z.cell2.1; rw [c0] at h; cases h
  go_wp2_with fail
  refine wp_region_held_drew (S := fun W => Blk W (w.heap.size + 1 + 1) 38 #[.slice (some ⟨g, 0, none⟩) n cap, .int .i64 s] ∧ W.cell? ⟨g', 0, none⟩ = some (.string x.text)) (by kernel_rfl) ?_ (fun hS => ?_)
  · exact ⟨HM.r.drew, c0⟩
  refine wpAnyH_take (i := 0) (v := .agg #[.slice (some ⟨g, 0, none⟩) n cap, .int .i64 s]) rfl (by kernel_rfl) (by kernel_rfl) (by kernel_rfl) (fun _ _ _ h => h) (yields_Blk (by rfl) _ _ rfl (w.heap.size + 1 + 1) rfl (fun _ h => h.1) hu rfl at_i) hS ?_
  simp only [Act.put, List.getElem_toArray, List.getElem_cons_succ, List.getElem_cons_zero, List.setIfInBounds_toArray, List.set_cons_zero, List.set_cons_succ]
  refine wpAnyH_take (i := 1) (v := .string T) rfl (by kernel_rfl) (by kernel_rfl) (by kernel_rfl) (fun _ _ _ h => h) (Or.inl ⟨by rfl, ?_⟩) hS ?_
  · intro w hSw
    go_simp
  simp only [Act.put, List.getElem_toArray, List.getElem_cons_succ, List.getElem_cons_zero, List.setIfInBounds_toArray, List.set_cons_zero, List.set_cons_succ]
  refine wpAnyH_take (i := 2) (v := .slice (some ⟨g', 0, none⟩) 1 cap') rfl (by kernel_rfl) (by kernel_rfl) (by kernel_rfl) (fun _ _ _ h => h) (Or.inl ⟨by rfl, ?_⟩) hS ?_
  · intro w hSw
    go_simp
  simp only [Act.put, List.getElem_toArray, List.getElem_cons_succ, List.getElem_cons_zero, List.setIfInBounds_toArray, List.set_cons_zero, List.set_cons_succ]
  refine wpAnyH_take (i := 3) (v := .pointer (some ⟨g', 0, none⟩)) rfl (by kernel_rfl) (by kernel_rfl) (by kernel_rfl) (fun _ _ _ h => h) (Or.inl ⟨by rfl, ?_⟩) hS ?_
  · intro w hSw
    go_simp
  simp only [Act.put, List.getElem_toArray, List.getElem_cons_succ, List.getElem_cons_zero, List.setIfInBounds_toArray, List.set_cons_zero, List.set_cons_succ]
  refine wpAnyH_take (i := 4) (v := .string x.text) rfl (by kernel_rfl) (by kernel_rfl) (by kernel_rfl) (fun _ _ _ h => h) (Or.inl ⟨by rfl, ?_⟩) hS ?_
  · rintro w ⟨c9, c0⟩
    go_simp
  simp only [Act.put, List.getElem_toArray, List.getElem_cons_succ, List.getElem_cons_zero, List.setIfInBounds_toArray, List.set_cons_zero, List.set_cons_succ]
  have HMd := HM.drew
  have hbA : Below w1.drew.heap.size w1.drew (w1.drew.alloc (Obj.cells #[.string T, .string x.text] 9)) := below_new (Below.refl _ _) _
  have hP := fun (W : World) (hA : Todo W g ts) (hB : TextsAt W w1.heap.size [x, Ct.n1 119 d x].reverse) (hC : 0 < [x, Ct.n1 119 d x].length → w1.heap.size < W.heap.size) => spec_l6Push ts [x, Ct.n1 119 d x] s g cap w1.heap.size 2 W hA hB (by omega) (by simp) hC
  simp only [hN] at hP
  have hTA : Todo (w1.drew.alloc (Obj.cells #[.string T, .string x.text] 9)) g ts := ((hr.grown HM.b).drew).grown hbA
  have h0 : (w1.drew.alloc (Obj.cells #[.string T, .string x.text] 9)).heap[w1.heap.size]? = some (.cells #[.string T, .string x.text] 9 (0, 0)) := heap_alloc_new w1.drew _
  refine wpAnyH_ready (rs := [5]) (by kernel_rfl) (by simp) ?_
  refine AllReadyH.cons rfl (fun K hK => ?_) AllReadyH.nil
  rw [if_pos (by rfl)]
  unfold Oper.wp
  go_simp
  refine hK.out _ (w1.drew.alloc (Obj.cells #[.string T, .string x.text] 9)) ?_ (fun hS1 => ?_)
  · exact ⟨hS.1.grown hbA, cell_grown hS.2 hbA⟩
  clear hK K
  replace hS := hS1
  clear hS1
  try simp only [Act.put, List.getElem_toArray, List.getElem_cons_succ, List.getElem_cons_zero, List.setIfInBounds_toArray, List.set_cons_zero, List.set_cons_succ]
  refine wpAnyH_ready (rs := [6]) (by kernel_rfl) (by simp) ?_
  refine AllReadyH.cons rfl (fun K hK => ?_) AllReadyH.nil
  rw [if_pos (by rfl)]
  refine op_call 53 _ _ rfl (enters_of Tryz.func53 (by kernel_rfl) rfl) _ (hP (w1.drew.alloc (Obj.cells #[.string T, .string x.text] 9)) hTA ?tx (by simp)) rfl ?_
  case tx =>
    intro j z hj
    obtain rfl | rfl | h2 : j = 0 ∨ j = 1 ∨ 2 ≤ j := by omega
    · simp at hj; subst hj; rw [HTX.out]; exact (cell_of_row _ _ 0 _ _ _ h0).trans rfl
    · simp at hj; subst hj; exact (cell_of_row _ _ 1 _ _ _ h0).trans rfl
    · rw [List.getElem?_eq_none (by simp; omega)] at hj; cases hj
  rintro e w2 ⟨g2, cap2, rfl, hT2, hc2, hg2, hb2⟩
  have HM2 := (HMd.grown hbA).grown hb2
  refine ⟨_, rfl, ?_⟩
  refine hK.out _ _ ?_ (fun hS1 => ?_)
  · exact ⟨hS.1.grown hb2, cell_grown hS.2 hb2⟩
  clear hK K
  replace hS := hS1
  clear hS1
  try simp only [Act.put, List.getElem_toArray, List.getElem_cons_succ, List.getElem_cons_zero, List.setIfInBounds_toArray, List.set_cons_zero, List.set_cons_succ]
  refine wpAnyH_ready (rs := [7]) (by kernel_rfl) (by simp) ?_
  refine AllReadyH.cons rfl (fun K hK => ?_) AllReadyH.nil
  rw [if_pos (by rfl)]
  refine op_store_Blk _ _ _ rfl (w.heap.size + 1) rfl rfl HM2.z at_i rfl (by simp [Value.oneCell']) ?_
  refine hK.out _ _ ?_ (fun hS1 => ?_)
  · exact ⟨hS.1.setRowOther _ _ (by omega), cell_kept hS.2 (setRow_other _ _ _ _ hne)⟩
  clear hK K
  replace hS := hS1
  clear hS1
  try simp only [Act.put, List.getElem_toArray, List.getElem_cons_succ, List.getElem_cons_zero, List.setIfInBounds_toArray, List.set_cons_zero, List.set_cons_succ]
  refine wpAnyH_take (i := 8) (v := .string ⟨#[]⟩) rfl (by kernel_rfl) (by kernel_rfl) (by kernel_rfl) (fun _ _ _ h => h) (Or.inl ⟨by rfl, ?_⟩) hS ?_
  · intro w hSw
    go_simp
  simp only [Act.put, List.getElem_toArray, List.getElem_cons_succ, List.getElem_cons_zero, List.setIfInBounds_toArray, List.set_cons_zero, List.set_cons_succ]
  refine wpAnyH_done (by kernel_rfl) ?_ _
  go_wp2_with fail
  refine ret_Blk2 rfl (w.heap.size + 1) rfl (HM2.z.setRow _) hu rfl at_i rfl ⟨below_setRow HM2.b (by omega) _, ?_⟩
  have e9 : (Ct.n1 119 d x).next s = .go [x, Ct.n1 119 d x] := by show (if has (dsF d 0) s then Nx.go [x, Ct.n1 119 d x] else Nx.go []) = _; rw [HH.out]; rfl
  rw [e9]
  refine ⟨g2, cap2, by rw [← hN]; rfl, ⟨fun j z hj => ?_⟩, hc2⟩
  have hzl := HM.z.lt
  have hg3 : w1.heap.size ≤ g2 := by have h := hg2; simp at h; omega
  exact cell_kept (hT2.lies j z hj) (setRow_other _ _ _ _ (by omega))

theorem spec_mv119false (d : List Int) (x : Ct) (hnd : d.length = 1) (ts : List Ct) (s : Nat) (hs : s < 4) (g cap : Nat) (w : World) (ht : (Ct.n1 119 d x).WF) (hlen : (Ct.n1 119 d x).len ≤ 200) (hT : Todo w g (Ct.n1 119 d x :: ts)) (hn : ts.length ≤ 100000) (hcap : ts.length + 1 ≤ cap) (hh : has (dsF d 0) s = false) :
    Calls Tryz.prog 46 #[.agg #[.slice (some ⟨g, 0, none⟩) (ts.length + 1) cap, .int .i64 s]] w (Moved (Ct.n1 119 d x) s ts g cap w) := by
  obtain ⟨fs, hu⟩ := at_u
  have hl := hT.last
  have hr := hT.rest
  have hop := op_text (Ct.n1 119 d x)
  have hb0 : ((bt (Ct.n1 119 d x).text 0).toNat : Int) = 119 := by rw [hop]; rfl
  have hs0 : 0 < (Ct.n1 119 d x).text.size := by rw [Ct.text_size]; exact (Ct.n1 119 d x).len_pos
  have hs1 : 1 + 1 ≤ (Ct.n1 119 d x).text.size := by rw [Ct.text_size]; have := (Ct.n1 119 d x).len_head; rw [show (Ct.n1 119 d x).ds.length = 1 from hnd] at this; exact this
  have HPARTS : ∀ W : World, Calls Tryz.prog 52 #[.string (Ct.n1 119 d x).text] W fun e w' => (∃ g cap, e = .returned (.slice (some ⟨g, 0, none⟩) (Ct.n1 119 d x).parts.length cap) ∧ TextsAt w' g (Ct.n1 119 d x).parts) ∧ Below W.heap.size W w' := fun W => spec_l5Parts (Ct.n1 119 d x) ht hlen W
  have HM0 := MvS.mk0 w ts.length g cap s
  have HLN : Hid (ts.length = ts.length) := rfl
  have HD : Hid (hx (bt (Ct.n1 119 d x).text 1) = dsF d 0) := dig_ext ht hnd
  clear hop
  generalize hN : ts.length = n at *
  generalize hTX : (Ct.n1 119 d x).text = T at *
  have HTX := Lib.hid hTX
  clear hTX
  have hs2 : 1 + 1 ≤ T.size → 1 ≤ 1 → ¬ ((T.size : Int) ≤ 1) := fun _ _ => by omega
  have hs3 := hs2 hs1
  clear hs2
  have hl' : ∀ o p, ((w.alloc o).alloc p).cell? ⟨g, n, none⟩ = some (.string T) := fun o p => cell_grown hl (below_new (below_new (Below.refl _ _) _) _)
  go_enter Tryz.func46, Tryz.ntmps46
  go_wp2_with fail
  go_region
  generalize (((w.alloc (Obj.cells #[.slice (some ⟨g, 0, none⟩) (n + 1) cap, .int .i64 s] 38)).alloc (Obj.cells #[.slice none 0 0, .int .i64 0] 38)).alloc (Obj.cells #[.slice (some ⟨g, 0, none⟩) n cap, .int .i64 s] 38)).drew = W0 at *
  go_wp2_with fail
  refine (HPARTS _).mono ?_
  rintro e w1 ⟨⟨g', cap', rfl, hg'⟩, hb1⟩
  have HM := HM0.grown hb1
  clear HPARTS HM0
  have hs4 := hs3 (by decide)
  clear hs3
  have HH := Lib.hid hh
  clear hh
  have e5 : (Ct.n1 119 d x).parts.length = 1 := rfl
  rw [e5]
  go_wp2_with fail
  refine wp_region_held_drew (S := fun W => MvS w W n g cap s) (by kernel_rfl) ?_ (fun hS => ?_)
  · exact HM.drew
  refine wpAnyH_take (i := 0) (v := .string T) rfl (by kernel_rfl) (by kernel_rfl) (by kernel_rfl) (fun _ _ _ h => h) (Or.inl ⟨by rfl, ?_⟩) hS ?_
  · intro w hSw
    go_simp
  simp only [Act.put, List.getElem_toArray, List.getElem_cons_succ, List.getElem_cons_zero, List.setIfInBounds_toArray, List.set_cons_zero, List.set_cons_succ]
  refine wpAnyH_take (i := 1) (v := .int .u8 ((bt T 1).toNat : Int)) rfl (by kernel_rfl) (by kernel_rfl) (by kernel_rfl) (fun _ _ _ h => h) (Or.inl ⟨by rfl, ?_⟩) hS ?_
  · intro w hSw
    go_simp
  simp only [Act.put, List.getElem_toArray, List.getElem_cons_succ, List.getElem_cons_zero, List.setIfInBounds_toArray, List.set_cons_zero, List.set_cons_succ]
  refine wpAnyH_take (i := 3) (v := .pointer (some ⟨w.heap.size, 1, none⟩)) rfl (by kernel_rfl) (by kernel_rfl) (by kernel_rfl) (fun _ _ _ h => h) (Or.inl ⟨by rfl, ?_⟩) hS ?_
  · intro w hSw
    go_simp
  simp only [Act.put, List.getElem_toArray, List.getElem_cons_succ, List.getElem_cons_zero, List.setIfInBounds_toArray, List.set_cons_zero, List.set_cons_succ]
  refine wpAnyH_take (i := 4) (v := .int .i64 s) rfl (by kernel_rfl) (by kernel_rfl) (by kernel_rfl) (fun _ _ _ h => h) (Or.inl ⟨by rfl, ?_⟩) hS ?_
  · rintro W hSw
    have h7 := hSw.a.cell2.2
    clear hSw
    go_simp
  simp only [Act.put, List.getElem_toArray, List.getElem_cons_succ, List.getElem_cons_zero, List.setIfInBounds_toArray, List.set_cons_zero, List.set_cons_succ]
  refine wpAnyH_ready (rs := [2]) (by kernel_rfl) (by simp) ?_
  refine AllReadyH.cons rfl (fun K hK => ?_) AllReadyH.nil
  rw [if_pos (by rfl)]
  refine op_call 72 _ _ rfl (enters_of Tryz.func72 (by kernel_rfl) rfl) _ (spec_l2Hex _ _) rfl ?_
  rintro e w3 ⟨rfl, rfl⟩
  refine ⟨_, rfl, ?_⟩
  refine hK.out _ _ ?_ (fun hS1 => ?_)
  · exact hS
  clear hK K
  replace hS := hS1
  clear hS1
  simp only [Act.put, List.getElem_toArray, List.getElem_cons_succ, List.getElem_cons_zero, List.setIfInBounds_toArray, List.set_cons_zero, List.set_cons_succ]
  rw [HD.out]
  refine wpAnyH_ready (rs := [5]) (by kernel_rfl) (by simp) ?_
  refine AllReadyH.cons rfl (fun K hK => ?_) AllReadyH.nil
  rw [if_pos (by rfl)]
  refine op_call 47 _ _ rfl (enters_of Tryz.func47 (by kernel_rfl) rfl) _ (spec_l1Has _ s _ (by omega)) rfl ?_
  rintro e w4 ⟨rfl, rfl⟩
  refine ⟨_, rfl, ?_⟩
  refine hK.out _ _ ?_ (fun hS1 => ?_)
  · exact hS
  clear hK K
  replace hS := hS1
  clear hS1
  simp only [Act.put, List.getElem_toArray, List.getElem_cons_succ, List.getElem_cons_zero, List.setIfInBounds_toArray, List.set_cons_zero, List.set_cons_succ]
  rw [HH.out]
  refine wpAnyH_done (by kernel_rfl) ?_ _
  replace HM := hS
  replace hg' : TextsAt w1.drew g' (Ct.n1 119 d x).parts := hg'
  clear hS
  generalize w1.drew = w1 at *
  go_wp2_with (first
    | (refine wp_store_Blk rfl _ _ _ rfl (w.heap.size + 1) rfl rfl HM.z at_i rfl (by simp [Value.oneCell']) ?_)
    | (refine wp_load_Blk rfl _ _ rfl (w.heap.size + 1 + 1) rfl HM.r hu rfl at_i ?_))
  refine ret_Blk2 rfl (w.heap.size + 1) rfl (HM.z.setRow _) hu rfl at_i rfl ⟨below_setRow HM.b (by omega) _, ?_⟩
  have e9 : (Ct.n1 119 d x).next s = .go [] := by show (if has (dsF d 0) s then Nx.go [x, Ct.n1 119 d x] else Nx.go []) = _; rw [HH.out]; rfl
  rw [e9]
  show ∃ g2 cap2, _ ∧ _ ∧ _
  rw [← hN]
  refine ⟨g, cap, rfl, ⟨fun j x hj => ?_⟩, by show ts.length ≤ cap; omega⟩
  exact cell_kept (cell_grown_b (hr.lies j x hj) HM.b) (setRow_other _ _ _ _ (by have := block_lt_of_cell (hr.lies j x hj); show g ≠ _; have : g < w.heap.size := this; omega))

theorem spec_l6Move (t : Ct) (ts : List Ct) (s : Nat) (hs : s < 4) (g cap : Nat) (w : World) (ht : t.WF) (hlen : t.len ≤ 200) (hT : Todo w g (t :: ts)) (hn : ts.length ≤ 100000) (hcap : ts.length + 1 ≤ cap) :
    Calls Tryz.prog 46 #[.agg #[.slice (some ⟨g, 0, none⟩) (ts.length + 1) cap, .int .i64 s]] w (Moved t s ts g cap w) := by
  cases t with
  | n0 o d =>
    rcases shp0 ht.1 with ⟨rfl | rfl | rfl, hd⟩ | ⟨rfl | rfl, hd⟩ | ⟨rfl | rfl, hd⟩
    · exact spec_mv115 d hd ts s hs g cap w ht hlen hT hn hcap
    · exact spec_mv97 d hd ts s hs g cap w ht hlen hT hn hcap
    · exact spec_mv109 d hd ts s hs g cap w ht hlen hT hn hcap
    · cases hh : has (dsF d 0) s
      · exact spec_mv33false d hd ts s hs g cap w ht hlen hT hn hcap hh
      · exact spec_mv33true d hd ts s hs g cap w ht hlen hT hn hcap hh
    · cases hh : has (dsF d 0) s
      · exact spec_mv63false d hd ts s hs g cap w ht hlen hT hn hcap hh
      · exact spec_mv63true d hd ts s hs g cap w ht hlen hT hn hcap hh
    · exact spec_mv65 d hd ts s hs g cap w ht hlen hT hn hcap
    · exact spec_mv68 d hd ts s hs g cap w ht hlen hT hn hcap
  | n1 o d x =>
    rcases shp1 ht.1.1 with ⟨rfl, hd⟩ | ⟨rfl | rfl, hd⟩
    · cases hh : has (dsF d 0) s
      · exact spec_mv119false d x hd ts s hs g cap w ht hlen hT hn hcap hh
      · exact spec_mv119true d x hd ts s hs g cap w ht hlen hT hn hcap hh
    · exact spec_mv42 d x hd ts s hs g cap w ht hlen hT hn hcap
    · exact spec_mv43 d x hd ts s hs g cap w ht hlen hT hn hcap
  | n2 o d x y =>
    rcases shp2 ht.1.1 with ⟨rfl | rfl | rfl, hd⟩ | ⟨rfl, hd⟩
    · exact spec_mv59 d x y hd ts s hs g cap w ht hlen hT hn hcap
    · exact spec_mv38 d x y hd ts s hs g cap w ht hlen hT hn hcap
    · exact spec_mv124 d x y hd ts s hs g cap w ht hlen hT hn hcap
    · cases hh : has (dsF d 0) s
      · exact spec_mv105false d x y hd ts s hs g cap w ht hlen hT hn hcap hh
      · exact spec_mv105true d x y hd ts s hs g cap w ht hlen hT hn hcap hh

end Go.Proofs.YtaeibhpkcikaaaaGreatDoor
