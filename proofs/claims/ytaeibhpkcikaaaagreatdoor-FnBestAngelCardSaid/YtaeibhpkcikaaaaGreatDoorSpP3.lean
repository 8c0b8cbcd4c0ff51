/- Plays: the reference's moves that need no choice (printed by mk6.py). -/
import Derived.Test.YtaeibhpkcikaaaaGreatDoorGM
import Derived.StillTailTactics
namespace Go.Proofs.YtaeibhpkcikaaaaGreatDoor
set_option linter.unusedVariables false
set_option linter.unusedSimpArgs false
open Go.RowKit Go.Shelf
set_option maxRecDepth 100000
set_option maxHeartbeats 1000000

/-- what a move comes to -/
def Moved (t : Ct) (s : Nat) (ts : List Ct) (g cap : Nat) (w : World) (e : Ending) (w' : World) : Prop := Below w.heap.size w w' ∧ match t.next s with
  | .go l => ∃ g2 cap2, e = .returned (.tuple #[.agg #[.slice (some ⟨g2, 0, none⟩) (l ++ ts).length cap2, .int .i64 s], .string ⟨#[]⟩]) ∧ Todo w' g2 (l ++ ts) ∧ (l ++ ts).length ≤ cap2
  | .stop a => e = .returned (.tuple #[.agg #[.slice (some ⟨g, 0, none⟩) (ts.length + 1) cap, .int .i64 s], .string (whoN a)])
  | .pick => e = .returned (.tuple #[.agg #[.slice (some ⟨g, 0, none⟩) (ts.length + 1) cap, .int .i64 s], .string ⟨#[99, 104, 111, 105, 99, 101]⟩])
/-- what the moves work on: the place, the result, the place without the statement -/
structure MvS (w W : World) (n g cap : Nat) (s : Nat) : Prop where
  b : Below w.heap.size w W
  a : Blk W w.heap.size 38 #[.slice (some ⟨g, 0, none⟩) (n + 1) cap, .int .i64 s]
  z : Blk W (w.heap.size + 1) 38 #[.slice none 0 0, .int .i64 0]
  r : Blk W (w.heap.size + 1 + 1) 38 #[.slice (some ⟨g, 0, none⟩) n cap, .int .i64 s]
theorem MvS.grown {w W W' : World} {n g cap s : Nat} (h : MvS w W n g cap s) (hb : Below W.heap.size W W') : MvS w W' n g cap s := ⟨below_step h.b hb, h.a.grown hb, h.z.grown hb, h.r.grown hb⟩
theorem MvS.drew {w W : World} {n g cap s : Nat} (h : MvS w W n g cap s) : MvS w W.drew n g cap s := ⟨h.b.drew, h.a.drew, h.z.drew, h.r.drew⟩
theorem MvS.mk0 (w : World) (n g cap : Nat) (s : Nat) : MvS w (((w.alloc (Obj.cells #[.slice (some ⟨g, 0, none⟩) (n + 1) cap, .int .i64 s] 38)).alloc (Obj.cells #[.slice none 0 0, .int .i64 0] 38)).alloc (Obj.cells #[.slice (some ⟨g, 0, none⟩) n cap, .int .i64 s] 38)).drew n g cap s :=
  ⟨(below_new (below_new (below_new (Below.refl _ _) _) _) _).drew, (((Blk.new w _ _).old _).old _).drew, ((Blk.newAt (w.alloc _) _ _ (w.heap.size + 1) (by simp)).old _).drew, (Blk.newAt ((w.alloc _).alloc _) _ _ (w.heap.size + 1 + 1) (by simp)).drew⟩

theorem cell_grown_b {w w' : World} {a : Addr} {v : Value} (h : w.cell? a = some v) (hb : Below w.heap.size w w') : w'.cell? a = some v := cell_grown h hb

theorem spec_mv115 (d : List Int) (hnd : d.length = 0) (ts : List Ct) (s : Nat) (hs : s < 4) (g cap : Nat) (w : World) (ht : (Ct.n0 115 d).WF) (hlen : (Ct.n0 115 d).len ≤ 200) (hT : Todo w g (Ct.n0 115 d :: ts)) (hn : ts.length ≤ 100000) (hcap : ts.length + 1 ≤ cap) :
    Calls Tryz.prog 46 #[.agg #[.slice (some ⟨g, 0, none⟩) (ts.length + 1) cap, .int .i64 s]] w (Moved (Ct.n0 115 d) s ts g cap w) := by
  obtain ⟨fs, hu⟩ := at_u
  have hl := hT.last
  have hr := hT.rest
  have hop := op_text (Ct.n0 115 d)
  have hb0 : ((bt (Ct.n0 115 d).text 0).toNat : Int) = 115 := by rw [hop]; rfl
  have hs0 : 0 < (Ct.n0 115 d).text.size := by rw [Ct.text_size]; exact (Ct.n0 115 d).len_pos
  have hs1 : 1 + 0 ≤ (Ct.n0 115 d).text.size := by rw [Ct.text_size]; have := (Ct.n0 115 d).len_head; rw [show (Ct.n0 115 d).ds.length = 0 from hnd] at this; exact this
  have HPARTS : ∀ W : World, Calls Tryz.prog 52 #[.string (Ct.n0 115 d).text] W fun e w' => (∃ g cap, e = .returned (.slice (some ⟨g, 0, none⟩) (Ct.n0 115 d).parts.length cap) ∧ TextsAt w' g (Ct.n0 115 d).parts) ∧ Below W.heap.size W w' := fun W => spec_l5Parts (Ct.n0 115 d) ht hlen W
  have HM0 := MvS.mk0 w ts.length g cap s
  have HLN : Hid (ts.length = ts.length) := rfl
  clear hop
  generalize hN : ts.length = n at *
  generalize hTX : (Ct.n0 115 d).text = T at *
  have HTX := Lib.hid hTX
  clear hTX
  have hs2 : 1 + 0 ≤ T.size → 1 ≤ 0 → ¬ ((T.size : Int) ≤ 1) := fun _ _ => by omega
  have hs3 := hs2 hs1
  clear hs2
  have hl' : ∀ o p, ((w.alloc o).alloc p).cell? ⟨g, n, none⟩ = some (.string T) := fun o p => cell_grown hl (below_new (below_new (Below.refl _ _) _) _)
  go_enter Tryz.func46, Tryz.ntmps46
  go_wp2_with fail
  go_region
  generalize (((w.alloc (Obj.cells #[.slice (some ⟨g, 0, none⟩) (n + 1) cap, .int .i64 s] 38)).alloc (Obj.cells #[.slice none 0 0, .int .i64 0] 38)).alloc (Obj.cells #[.slice (some ⟨g, 0, none⟩) n cap, .int .i64 s] 38)).drew = W0 at *
  go_wp2_with fail
  refine (HPARTS _).mono ?_
  rintro e w1 ⟨⟨g', cap', rfl, hg'⟩, hb1⟩
  have HM := HM0.grown hb1
  clear HPARTS HM0
  go_wp2_with (first
    | (refine wp_store_Blk rfl _ _ _ rfl (w.heap.size + 1) rfl rfl HM.z at_i rfl (by simp [Value.oneCell']) ?_)
    | (refine wp_load_Blk rfl _ _ rfl (w.heap.size + 1 + 1) rfl HM.r hu rfl at_i ?_))
  refine ret_Blk2 rfl (w.heap.size + 1) rfl (HM.z.setRow _) hu rfl at_i rfl ⟨below_setRow HM.b (by omega) _, ?_⟩
  show ∃ g2 cap2, _ ∧ _ ∧ _
  rw [← hN]
  refine ⟨g, cap, rfl, ⟨fun j x hj => ?_⟩, by show ts.length ≤ cap; omega⟩
  exact cell_kept (cell_grown_b (hr.lies j x hj) HM.b) (setRow_other _ _ _ _ (by have := block_lt_of_cell (hr.lies j x hj); show g ≠ _; have : g < w.heap.size := this; omega))

theorem spec_mv97 (d : List Int) (hnd : d.length = 0) (ts : List Ct) (s : Nat) (hs : s < 4) (g cap : Nat) (w : World) (ht : (Ct.n0 97 d).WF) (hlen : (Ct.n0 97 d).len ≤ 200) (hT : Todo w g (Ct.n0 97 d :: ts)) (hn : ts.length ≤ 100000) (hcap : ts.length + 1 ≤ cap) :
    Calls Tryz.prog 46 #[.agg #[.slice (some ⟨g, 0, none⟩) (ts.length + 1) cap, .int .i64 s]] w (Moved (Ct.n0 97 d) s ts g cap w) := by
  obtain ⟨fs, hu⟩ := at_u
  have hl := hT.last
  have hr := hT.rest
  have hop := op_text (Ct.n0 97 d)
  have hb0 : ((bt (Ct.n0 97 d).text 0).toNat : Int) = 97 := by rw [hop]; rfl
  have hs0 : 0 < (Ct.n0 97 d).text.size := by rw [Ct.text_size]; exact (Ct.n0 97 d).len_pos
  have hs1 : 1 + 0 ≤ (Ct.n0 97 d).text.size := by rw [Ct.text_size]; have := (Ct.n0 97 d).len_head; rw [show (Ct.n0 97 d).ds.length = 0 from hnd] at this; exact this
  have HPARTS : ∀ W : World, Calls Tryz.prog 52 #[.string (Ct.n0 97 d).text] W fun e w' => (∃ g cap, e = .returned (.slice (some ⟨g, 0, none⟩) (Ct.n0 97 d).parts.length cap) ∧ TextsAt w' g (Ct.n0 97 d).parts) ∧ Below W.heap.size W w' := fun W => spec_l5Parts (Ct.n0 97 d) ht hlen W
  have HM0 := MvS.mk0 w ts.length g cap s
  have HLN : Hid (ts.length = ts.length) := rfl
  clear hop
  generalize hN : ts.length = n at *
  generalize hTX : (Ct.n0 97 d).text = T at *
  have HTX := Lib.hid hTX
  clear hTX
  have hs2 : 1 + 0 ≤ T.size → 1 ≤ 0 → ¬ ((T.size : Int) ≤ 1) := fun _ _ => by omega
  have hs3 := hs2 hs1
  clear hs2
  have hl' : ∀ o p, ((w.alloc o).alloc p).cell? ⟨g, n, none⟩ = some (.string T) := fun o p => cell_grown hl (below_new (below_new (Below.refl _ _) _) _)
  go_enter Tryz.func46, Tryz.ntmps46
  go_wp2_with fail
  go_region
  generalize (((w.alloc (Obj.cells #[.slice (some ⟨g, 0, none⟩) (n + 1) cap, .int .i64 s] 38)).alloc (Obj.cells #[.slice none 0 0, .int .i64 0] 38)).alloc (Obj.cells #[.slice (some ⟨g, 0, none⟩) n cap, .int .i64 s] 38)).drew = W0 at *
  go_wp2_with fail
  refine (HPARTS _).mono ?_
  rintro e w1 ⟨⟨g', cap', rfl, hg'⟩, hb1⟩
  have HM := HM0.grown hb1
  clear HPARTS HM0
  go_wp2_with (first
    | (refine wp_store_Blk rfl _ _ _ rfl (w.heap.size + 1) rfl rfl HM.z at_i rfl (by simp [Value.oneCell']) ?_)
    | (refine wp_load_Blk rfl _ _ rfl (w.heap.size) rfl HM.a hu rfl at_i ?_))
  refine ret_Blk2 rfl (w.heap.size + 1) rfl (HM.z.setRow _) hu rfl at_i rfl ⟨below_setRow HM.b (by omega) _, ?_⟩
  rw [hN]; rfl

theorem spec_mv109 (d : List Int) (hnd : d.length = 0) (ts : List Ct) (s : Nat) (hs : s < 4) (g cap : Nat) (w : World) (ht : (Ct.n0 109 d).WF) (hlen : (Ct.n0 109 d).len ≤ 200) (hT : Todo w g (Ct.n0 109 d :: ts)) (hn : ts.length ≤ 100000) (hcap : ts.length + 1 ≤ cap) :
    Calls Tryz.prog 46 #[.agg #[.slice (some ⟨g, 0, none⟩) (ts.length + 1) cap, .int .i64 s]] w (Moved (Ct.n0 109 d) s ts g cap w) := by
  obtain ⟨fs, hu⟩ := at_u
  have hl := hT.last
  have hr := hT.rest
  have hop := op_text (Ct.n0 109 d)
  have hb0 : ((bt (Ct.n0 109 d).text 0).toNat : Int) = 109 := by rw [hop]; rfl
  have hs0 : 0 < (Ct.n0 109 d).text.size := by rw [Ct.text_size]; exact (Ct.n0 109 d).len_pos
  have hs1 : 1 + 0 ≤ (Ct.n0 109 d).text.size := by rw [Ct.text_size]; have := (Ct.n0 109 d).len_head; rw [show (Ct.n0 109 d).ds.length = 0 from hnd] at this; exact this
  have HPARTS : ∀ W : World, Calls Tryz.prog 52 #[.string (Ct.n0 109 d).text] W fun e w' => (∃ g cap, e = .returned (.slice (some ⟨g, 0, none⟩) (Ct.n0 109 d).parts.length cap) ∧ TextsAt w' g (Ct.n0 109 d).parts) ∧ Below W.heap.size W w' := fun W => spec_l5Parts (Ct.n0 109 d) ht hlen W
  have HM0 := MvS.mk0 w ts.length g cap s
  have HLN : Hid (ts.length = ts.length) := rfl
  clear hop
  generalize hN : ts.length = n at *
  generalize hTX : (Ct.n0 109 d).text = T at *
  have HTX := Lib.hid hTX
  clear hTX
  have hs2 : 1 + 0 ≤ T.size → 1 ≤ 0 → ¬ ((T.size : Int) ≤ 1) := fun _ _ => by omega
  have hs3 := hs2 hs1
  clear hs2
  have hl' : ∀ o p, ((w.alloc o).alloc p).cell? ⟨g, n, none⟩ = some (.string T) := fun o p => cell_grown hl (below_new (below_new (Below.refl _ _) _) _)
  go_enter Tryz.func46, Tryz.ntmps46
  go_wp2_with fail
  go_region
  generalize (((w.alloc (Obj.cells #[.slice (some ⟨g, 0, none⟩) (n + 1) cap, .int .i64 s] 38)).alloc (Obj.cells #[.slice none 0 0, .int .i64 0] 38)).alloc (Obj.cells #[.slice (some ⟨g, 0, none⟩) n cap, .int .i64 s] 38)).drew = W0 at *
  go_wp2_with fail
  refine (HPARTS _).mono ?_
  rintro e w1 ⟨⟨g', cap', rfl, hg'⟩, hb1⟩
  have HM := HM0.grown hb1
  clear HPARTS HM0
  go_wp2_with (first
    | (refine wp_store_Blk rfl _ _ _ rfl (w.heap.size + 1) rfl rfl HM.z at_i rfl (by simp [Value.oneCell']) ?_)
    | (refine wp_load_Blk rfl _ _ rfl (w.heap.size) rfl HM.a hu rfl at_i ?_))
  refine ret_Blk2 rfl (w.heap.size + 1) rfl (HM.z.setRow _) hu rfl at_i rfl ⟨below_setRow HM.b (by omega) _, ?_⟩
  rw [hN]; rfl

theorem spec_mv65 (d : List Int) (hnd : d.length = 4) (ts : List Ct) (s : Nat) (hs : s < 4) (g cap : Nat) (w : World) (ht : (Ct.n0 65 d).WF) (hlen : (Ct.n0 65 d).len ≤ 200) (hT : Todo w g (Ct.n0 65 d :: ts)) (hn : ts.length ≤ 100000) (hcap : ts.length + 1 ≤ cap) :
    Calls Tryz.prog 46 #[.agg #[.slice (some ⟨g, 0, none⟩) (ts.length + 1) cap, .int .i64 s]] w (Moved (Ct.n0 65 d) s ts g cap w) := by
  obtain ⟨fs, hu⟩ := at_u
  have hl := hT.last
  have hr := hT.rest
  have hop := op_text (Ct.n0 65 d)
  have hb0 : ((bt (Ct.n0 65 d).text 0).toNat : Int) = 65 := by rw [hop]; rfl
  have hs0 : 0 < (Ct.n0 65 d).text.size := by rw [Ct.text_size]; exact (Ct.n0 65 d).len_pos
  have hs1 : 1 + 4 ≤ (Ct.n0 65 d).text.size := by rw [Ct.text_size]; have := (Ct.n0 65 d).len_head; rw [show (Ct.n0 65 d).ds.length = 4 from hnd] at this; exact this
  have HPARTS : ∀ W : World, Calls Tryz.prog 52 #[.string (Ct.n0 65 d).text] W fun e w' => (∃ g cap, e = .returned (.slice (some ⟨g, 0, none⟩) (Ct.n0 65 d).parts.length cap) ∧ TextsAt w' g (Ct.n0 65 d).parts) ∧ Below W.heap.size W w' := fun W => spec_l5Parts (Ct.n0 65 d) ht hlen W
  have HM0 := MvS.mk0 w ts.length g cap s
  have HLN : Hid (ts.length = ts.length) := rfl
  clear hop
  generalize hN : ts.length = n at *
  generalize hTX : (Ct.n0 65 d).text = T at *
  have HTX := Lib.hid hTX
  clear hTX
  have hs2 : 1 + 4 ≤ T.size → 1 ≤ 4 → ¬ ((T.size : Int) ≤ 1) := fun _ _ => by omega
  have hs3 := hs2 hs1
  clear hs2
  have hl' : ∀ o p, ((w.alloc o).alloc p).cell? ⟨g, n, none⟩ = some (.string T) := fun o p => cell_grown hl (below_new (below_new (Below.refl _ _) _) _)
  go_enter Tryz.func46, Tryz.ntmps46
  go_wp2_with fail
  go_region
  generalize (((w.alloc (Obj.cells #[.slice (some ⟨g, 0, none⟩) (n + 1) cap, .int .i64 s] 38)).alloc (Obj.cells #[.slice none 0 0, .int .i64 0] 38)).alloc (Obj.cells #[.slice (some ⟨g, 0, none⟩) n cap, .int .i64 s] 38)).drew = W0 at *
  go_wp2_with fail
  refine (HPARTS _).mono ?_
  rintro e w1 ⟨⟨g', cap', rfl, hg'⟩, hb1⟩
  have HM := HM0.grown hb1
  clear HPARTS HM0
  have hs4 := hs3 (by decide)
  clear hs3
  go_wp2_with (first
    | (refine wp_store_Blk rfl _ _ _ rfl (w.heap.size + 1) rfl rfl HM.z at_i rfl (by simp [Value.oneCell']) ?_)
    | (refine wp_load_Blk rfl _ _ rfl (w.heap.size) rfl HM.a hu rfl at_i ?_))
  refine ret_Blk2 rfl (w.heap.size + 1) rfl (HM.z.setRow _) hu rfl at_i rfl ⟨below_setRow HM.b (by omega) _, ?_⟩
  rw [hN]; rfl

theorem spec_mv68 (d : List Int) (hnd : d.length = 4) (ts : List Ct) (s : Nat) (hs : s < 4) (g cap : Nat) (w : World) (ht : (Ct.n0 68 d).WF) (hlen : (Ct.n0 68 d).len ≤ 200) (hT : Todo w g (Ct.n0 68 d :: ts)) (hn : ts.length ≤ 100000) (hcap : ts.length + 1 ≤ cap) :
    Calls Tryz.prog 46 #[.agg #[.slice (some ⟨g, 0, none⟩) (ts.length + 1) cap, .int .i64 s]] w (Moved (Ct.n0 68 d) s ts g cap w) := by
  obtain ⟨fs, hu⟩ := at_u
  have hl := hT.last
  have hr := hT.rest
  have hop := op_text (Ct.n0 68 d)
  have hb0 : ((bt (Ct.n0 68 d).text 0).toNat : Int) = 68 := by rw [hop]; rfl
  have hs0 : 0 < (Ct.n0 68 d).text.size := by rw [Ct.text_size]; exact (Ct.n0 68 d).len_pos
  have hs1 : 1 + 4 ≤ (Ct.n0 68 d).text.size := by rw [Ct.text_size]; have := (Ct.n0 68 d).len_head; rw [show (Ct.n0 68 d).ds.length = 4 from hnd] at this; exact this
  have HPARTS : ∀ W : World, Calls Tryz.prog 52 #[.string (Ct.n0 68 d).text] W fun e w' => (∃ g cap, e = .returned (.slice (some ⟨g, 0, none⟩) (Ct.n0 68 d).parts.length cap) ∧ TextsAt w' g (Ct.n0 68 d).parts) ∧ Below W.heap.size W w' := fun W => spec_l5Parts (Ct.n0 68 d) ht hlen W
  have HM0 := MvS.mk0 w ts.length g cap s
  have HLN : Hid (ts.length = ts.length) := rfl
  clear hop
  generalize hN : ts.length = n at *
  generalize hTX : (Ct.n0 68 d).text = T at *
  have HTX := Lib.hid hTX
  clear hTX
  have hs2 : 1 + 4 ≤ T.size → 1 ≤ 4 → ¬ ((T.size : Int) ≤ 1) := fun _ _ => by omega
  have hs3 := hs2 hs1
  clear hs2
  have hl' : ∀ o p, ((w.alloc o).alloc p).cell? ⟨g, n, none⟩ = some (.string T) := fun o p => cell_grown hl (below_new (below_new (Below.refl _ _) _) _)
  go_enter Tryz.func46, Tryz.ntmps46
  go_wp2_with fail
  go_region
  generalize (((w.alloc (Obj.cells #[.slice (some ⟨g, 0, none⟩) (n + 1) cap, .int .i64 s] 38)).alloc (Obj.cells #[.slice none 0 0, .int .i64 0] 38)).alloc (Obj.cells #[.slice (some ⟨g, 0, none⟩) n cap, .int .i64 s] 38)).drew = W0 at *
  go_wp2_with fail
  refine (HPARTS _).mono ?_
  rintro e w1 ⟨⟨g', cap', rfl, hg'⟩, hb1⟩
  have HM := HM0.grown hb1
  clear HPARTS HM0
  have hs4 := hs3 (by decide)
  clear hs3
  go_wp2_with (first
    | (refine wp_store_Blk rfl _ _ _ rfl (w.heap.size + 1) rfl rfl HM.z at_i rfl (by simp [Value.oneCell']) ?_)
    | (refine wp_load_Blk rfl _ _ rfl (w.heap.size) rfl HM.a hu rfl at_i ?_))
  refine ret_Blk2 rfl (w.heap.size + 1) rfl (HM.z.setRow _) hu rfl at_i rfl ⟨below_setRow HM.b (by omega) _, ?_⟩
  rw [hN]; rfl

theorem spec_mv42 (d : List Int) (x : Ct) (hnd : d.length = 0) (ts : List Ct) (s : Nat) (hs : s < 4) (g cap : Nat) (w : World) (ht : (Ct.n1 42 d x).WF) (hlen : (Ct.n1 42 d x).len ≤ 200) (hT : Todo w g (Ct.n1 42 d x :: ts)) (hn : ts.length ≤ 100000) (hcap : ts.length + 1 ≤ cap) :
    Calls Tryz.prog 46 #[.agg #[.slice (some ⟨g, 0, none⟩) (ts.length + 1) cap, .int .i64 s]] w (Moved (Ct.n1 42 d x) s ts g cap w) := by
  obtain ⟨fs, hu⟩ := at_u
  have hl := hT.last
  have hr := hT.rest
  have hop := op_text (Ct.n1 42 d x)
  have hb0 : ((bt (Ct.n1 42 d x).text 0).toNat : Int) = 42 := by rw [hop]; rfl
  have hs0 : 0 < (Ct.n1 42 d x).text.size := by rw [Ct.text_size]; exact (Ct.n1 42 d x).len_pos
  have hs1 : 1 + 0 ≤ (Ct.n1 42 d x).text.size := by rw [Ct.text_size]; have := (Ct.n1 42 d x).len_head; rw [show (Ct.n1 42 d x).ds.length = 0 from hnd] at this; exact this
  have HPARTS : ∀ W : World, Calls Tryz.prog 52 #[.string (Ct.n1 42 d x).text] W fun e w' => (∃ g cap, e = .returned (.slice (some ⟨g, 0, none⟩) (Ct.n1 42 d x).parts.length cap) ∧ TextsAt w' g (Ct.n1 42 d x).parts) ∧ Below W.heap.size W w' := fun W => spec_l5Parts (Ct.n1 42 d x) ht hlen W
  have HM0 := MvS.mk0 w ts.length g cap s
  have HLN : Hid (ts.length = ts.length) := rfl
  clear hop
  generalize hN : ts.length = n at *
  generalize hTX : (Ct.n1 42 d x).text = T at *
  have HTX := Lib.hid hTX
  clear hTX
  have hs2 : 1 + 0 ≤ T.size → 1 ≤ 0 → ¬ ((T.size : Int) ≤ 1) := fun _ _ => by omega
  have hs3 := hs2 hs1
  clear hs2
  have hl' : ∀ o p, ((w.alloc o).alloc p).cell? ⟨g, n, none⟩ = some (.string T) := fun o p => cell_grown hl (below_new (below_new (Below.refl _ _) _) _)
  go_enter Tryz.func46, Tryz.ntmps46
  go_wp2_with fail
  go_region
  generalize (((w.alloc (Obj.cells #[.slice (some ⟨g, 0, none⟩) (n + 1) cap, .int .i64 s] 38)).alloc (Obj.cells #[.slice none 0 0, .int .i64 0] 38)).alloc (Obj.cells #[.slice (some ⟨g, 0, none⟩) n cap, .int .i64 s] 38)).drew = W0 at *
  go_wp2_with fail
  refine (HPARTS _).mono ?_
  rintro e w1 ⟨⟨g', cap', rfl, hg'⟩, hb1⟩
  have HM := HM0.grown hb1
  clear HPARTS HM0
  go_wp2_with (first
    | (refine wp_store_Blk rfl _ _ _ rfl (w.heap.size + 1) rfl rfl HM.z at_i rfl (by simp [Value.oneCell']) ?_)
    | (refine wp_load_Blk rfl _ _ rfl (w.heap.size) rfl HM.a hu rfl at_i ?_))
  refine ret_Blk2 rfl (w.heap.size + 1) rfl (HM.z.setRow _) hu rfl at_i rfl ⟨below_setRow HM.b (by omega) _, ?_⟩
  rw [hN]; rfl

theorem spec_mv43 (d : List Int) (x : Ct) (hnd : d.length = 0) (ts : List Ct) (s : Nat) (hs : s < 4) (g cap : Nat) (w : World) (ht : (Ct.n1 43 d x).WF) (hlen : (Ct.n1 43 d x).len ≤ 200) (hT : Todo w g (Ct.n1 43 d x :: ts)) (hn : ts.length ≤ 100000) (hcap : ts.length + 1 ≤ cap) :
    Calls Tryz.prog 46 #[.agg #[.slice (some ⟨g, 0, none⟩) (ts.length + 1) cap, .int .i64 s]] w (Moved (Ct.n1 43 d x) s ts g cap w) := by
  obtain ⟨fs, hu⟩ := at_u
  have hl := hT.last
  have hr := hT.rest
  have hop := op_text (Ct.n1 43 d x)
  have hb0 : ((bt (Ct.n1 43 d x).text 0).toNat : Int) = 43 := by rw [hop]; rfl
  have hs0 : 0 < (Ct.n1 43 d x).text.size := by rw [Ct.text_size]; exact (Ct.n1 43 d x).len_pos
  have hs1 : 1 + 0 ≤ (Ct.n1 43 d x).text.size := by rw [Ct.text_size]; have := (Ct.n1 43 d x).len_head; rw [show (Ct.n1 43 d x).ds.length = 0 from hnd] at this; exact this
  have HPARTS : ∀ W : World, Calls Tryz.prog 52 #[.string (Ct.n1 43 d x).text] W fun e w' => (∃ g cap, e = .returned (.slice (some ⟨g, 0, none⟩) (Ct.n1 43 d x).parts.length cap) ∧ TextsAt w' g (Ct.n1 43 d x).parts) ∧ Below W.heap.size W w' := fun W => spec_l5Parts (Ct.n1 43 d x) ht hlen W
  have HM0 := MvS.mk0 w ts.length g cap s
  have HLN : Hid (ts.length = ts.length) := rfl
  clear hop
  generalize hN : ts.length = n at *
  generalize hTX : (Ct.n1 43 d x).text = T at *
  have HTX := Lib.hid hTX
  clear hTX
  have hs2 : 1 + 0 ≤ T.size → 1 ≤ 0 → ¬ ((T.size : Int) ≤ 1) := fun _ _ => by omega
  have hs3 := hs2 hs1
  clear hs2
  have hl' : ∀ o p, ((w.alloc o).alloc p).cell? ⟨g, n, none⟩ = some (.string T) := fun o p => cell_grown hl (below_new (below_new (Below.refl _ _) _) _)
  go_enter Tryz.func46, Tryz.ntmps46
  go_wp2_with fail
  go_region
  generalize (((w.alloc (Obj.cells #[.slice (some ⟨g, 0, none⟩) (n + 1) cap, .int .i64 s] 38)).alloc (Obj.cells #[.slice none 0 0, .int .i64 0] 38)).alloc (Obj.cells #[.slice (some ⟨g, 0, none⟩) n cap, .int .i64 s] 38)).drew = W0 at *
  go_wp2_with fail
  refine (HPARTS _).mono ?_
  rintro e w1 ⟨⟨g', cap', rfl, hg'⟩, hb1⟩
  have HM := HM0.grown hb1
  clear HPARTS HM0
  go_wp2_with (first
    | (refine wp_store_Blk rfl _ _ _ rfl (w.heap.size + 1) rfl rfl HM.z at_i rfl (by simp [Value.oneCell']) ?_)
    | (refine wp_load_Blk rfl _ _ rfl (w.heap.size) rfl HM.a hu rfl at_i ?_))
  refine ret_Blk2 rfl (w.heap.size + 1) rfl (HM.z.setRow _) hu rfl at_i rfl ⟨below_setRow HM.b (by omega) _, ?_⟩
  rw [hN]; rfl

theorem spec_mv38 (d : List Int) (x y : Ct) (hnd : d.length = 0) (ts : List Ct) (s : Nat) (hs : s < 4) (g cap : Nat) (w : World) (ht : (Ct.n2 38 d x y).WF) (hlen : (Ct.n2 38 d x y).len ≤ 200) (hT : Todo w g (Ct.n2 38 d x y :: ts)) (hn : ts.length ≤ 100000) (hcap : ts.length + 1 ≤ cap) :
    Calls Tryz.prog 46 #[.agg #[.slice (some ⟨g, 0, none⟩) (ts.length + 1) cap, .int .i64 s]] w (Moved (Ct.n2 38 d x y) s ts g cap w) := by
  obtain ⟨fs, hu⟩ := at_u
  have hl := hT.last
  have hr := hT.rest
  have hop := op_text (Ct.n2 38 d x y)
  have hb0 : ((bt (Ct.n2 38 d x y).text 0).toNat : Int) = 38 := by rw [hop]; rfl
  have hs0 : 0 < (Ct.n2 38 d x y).text.size := by rw [Ct.text_size]; exact (Ct.n2 38 d x y).len_pos
  have hs1 : 1 + 0 ≤ (Ct.n2 38 d x y).text.size := by rw [Ct.text_size]; have := (Ct.n2 38 d x y).len_head; rw [show (Ct.n2 38 d x y).ds.length = 0 from hnd] at this; exact this
  have HPARTS : ∀ W : World, Calls Tryz.prog 52 #[.string (Ct.n2 38 d x y).text] W fun e w' => (∃ g cap, e = .returned (.slice (some ⟨g, 0, none⟩) (Ct.n2 38 d x y).parts.length cap) ∧ TextsAt w' g (Ct.n2 38 d x y).parts) ∧ Below W.heap.size W w' := fun W => spec_l5Parts (Ct.n2 38 d x y) ht hlen W
  have HM0 := MvS.mk0 w ts.length g cap s
  have HLN : Hid (ts.length = ts.length) := rfl
  clear hop
  generalize hN : ts.length = n at *
  generalize hTX : (Ct.n2 38 d x y).text = T at *
  have HTX := Lib.hid hTX
  clear hTX
  have hs2 : 1 + 0 ≤ T.size → 1 ≤ 0 → ¬ ((T.size : Int) ≤ 1) := fun _ _ => by omega
  have hs3 := hs2 hs1
  clear hs2
  have hl' : ∀ o p, ((w.alloc o).alloc p).cell? ⟨g, n, none⟩ = some (.string T) := fun o p => cell_grown hl (below_new (below_new (Below.refl _ _) _) _)
  go_enter Tryz.func46, Tryz.ntmps46
  go_wp2_with fail
  go_region
  generalize (((w.alloc (Obj.cells #[.slice (some ⟨g, 0, none⟩) (n + 1) cap, .int .i64 s] 38)).alloc (Obj.cells #[.slice none 0 0, .int .i64 0] 38)).alloc (Obj.cells #[.slice (some ⟨g, 0, none⟩) n cap, .int .i64 s] 38)).drew = W0 at *
  go_wp2_with fail
  refine (HPARTS _).mono ?_
  rintro e w1 ⟨⟨g', cap', rfl, hg'⟩, hb1⟩
  have HM := HM0.grown hb1
  clear HPARTS HM0
  go_wp2_with (first
    | (refine wp_store_Blk rfl _ _ _ rfl (w.heap.size + 1) rfl rfl HM.z at_i rfl (by simp [Value.oneCell']) ?_)
    | (refine wp_load_Blk rfl _ _ rfl (w.heap.size) rfl HM.a hu rfl at_i ?_))
  refine ret_Blk2 rfl (w.heap.size + 1) rfl (HM.z.setRow _) hu rfl at_i rfl ⟨below_setRow HM.b (by omega) _, ?_⟩
  rw [hN]; rfl

theorem spec_mv124 (d : List Int) (x y : Ct) (hnd : d.length = 0) (ts : List Ct) (s : Nat) (hs : s < 4) (g cap : Nat) (w : World) (ht : (Ct.n2 124 d x y).WF) (hlen : (Ct.n2 124 d x y).len ≤ 200) (hT : Todo w g (Ct.n2 124 d x y :: ts)) (hn : ts.length ≤ 100000) (hcap : ts.length + 1 ≤ cap) :
    Calls Tryz.prog 46 #[.agg #[.slice (some ⟨g, 0, none⟩) (ts.length + 1) cap, .int .i64 s]] w (Moved (Ct.n2 124 d x y) s ts g cap w) := by
  obtain ⟨fs, hu⟩ := at_u
  have hl := hT.last
  have hr := hT.rest
  have hop := op_text (Ct.n2 124 d x y)
  have hb0 : ((bt (Ct.n2 124 d x y).text 0).toNat : Int) = 124 := by rw [hop]; rfl
  have hs0 : 0 < (Ct.n2 124 d x y).text.size := by rw [Ct.text_size]; exact (Ct.n2 124 d x y).len_pos
  have hs1 : 1 + 0 ≤ (Ct.n2 124 d x y).text.size := by rw [Ct.text_size]; have := (Ct.n2 124 d x y).len_head; rw [show (Ct.n2 124 d x y).ds.length = 0 from hnd] at this; exact this
  have HPARTS : ∀ W : World, Calls Tryz.prog 52 #[.string (Ct.n2 124 d x y).text] W fun e w' => (∃ g cap, e = .returned (.slice (some ⟨g, 0, none⟩) (Ct.n2 124 d x y).parts.length cap) ∧ TextsAt w' g (Ct.n2 124 d x y).parts) ∧ Below W.heap.size W w' := fun W => spec_l5Parts (Ct.n2 124 d x y) ht hlen W
  have HM0 := MvS.mk0 w ts.length g cap s
  have HLN : Hid (ts.length = ts.length) := rfl
  clear hop
  generalize hN : ts.length = n at *
  generalize hTX : (Ct.n2 124 d x y).text = T at *
  have HTX := Lib.hid hTX
  clear hTX
  have hs2 : 1 + 0 ≤ T.size → 1 ≤ 0 → ¬ ((T.size : Int) ≤ 1) := fun _ _ => by omega
  have hs3 := hs2 hs1
  clear hs2
  have hl' : ∀ o p, ((w.alloc o).alloc p).cell? ⟨g, n, none⟩ = some (.string T) := fun o p => cell_grown hl (below_new (below_new (Below.refl _ _) _) _)
  go_enter Tryz.func46, Tryz.ntmps46
  go_wp2_with fail
  go_region
  generalize (((w.alloc (Obj.cells #[.slice (some ⟨g, 0, none⟩) (n + 1) cap, .int .i64 s] 38)).alloc (Obj.cells #[.slice none 0 0, .int .i64 0] 38)).alloc (Obj.cells #[.slice (some ⟨g, 0, none⟩) n cap, .int .i64 s] 38)).drew = W0 at *
  go_wp2_with fail
  refine (HPARTS _).mono ?_
  rintro e w1 ⟨⟨g', cap', rfl, hg'⟩, hb1⟩
  have HM := HM0.grown hb1
  clear HPARTS HM0
  go_wp2_with (first
    | (refine wp_store_Blk rfl _ _ _ rfl (w.heap.size + 1) rfl rfl HM.z at_i rfl (by simp [Value.oneCell']) ?_)
    | (refine wp_load_Blk rfl _ _ rfl (w.heap.size) rfl HM.a hu rfl at_i ?_))
  refine ret_Blk2 rfl (w.heap.size + 1) rfl (HM.z.setRow _) hu rfl at_i rfl ⟨below_setRow HM.b (by omega) _, ?_⟩
  rw [hN]; rfl

theorem spec_mv33true (d : List Int) (hnd : d.length = 1) (ts : List Ct) (s : Nat) (hs : s < 4) (g cap : Nat) (w : World) (ht : (Ct.n0 33 d).WF) (hlen : (Ct.n0 33 d).len ≤ 200) (hT : Todo w g (Ct.n0 33 d :: ts)) (hn : ts.length ≤ 100000) (hcap : ts.length + 1 ≤ cap) (hh : has (dsF d 0) s = true) :
    Calls Tryz.prog 46 #[.agg #[.slice (some ⟨g, 0, none⟩) (ts.length + 1) cap, .int .i64 s]] w (Moved (Ct.n0 33 d) s ts g cap w) := by
  obtain ⟨fs, hu⟩ := at_u
  have hl := hT.last
  have hr := hT.rest
  have hop := op_text (Ct.n0 33 d)
  have hb0 : ((bt (Ct.n0 33 d).text 0).toNat : Int) = 33 := by rw [hop]; rfl
  have hs0 : 0 < (Ct.n0 33 d).text.size := by rw [Ct.text_size]; exact (Ct.n0 33 d).len_pos
  have hs1 : 1 + 1 ≤ (Ct.n0 33 d).text.size := by rw [Ct.text_size]; have := (Ct.n0 33 d).len_head; rw [show (Ct.n0 33 d).ds.length = 1 from hnd] at this; exact this
  have HPARTS : ∀ W : World, Calls Tryz.prog 52 #[.string (Ct.n0 33 d).text] W fun e w' => (∃ g cap, e = .returned (.slice (some ⟨g, 0, none⟩) (Ct.n0 33 d).parts.length cap) ∧ TextsAt w' g (Ct.n0 33 d).parts) ∧ Below W.heap.size W w' := fun W => spec_l5Parts (Ct.n0 33 d) ht hlen W
  have HM0 := MvS.mk0 w ts.length g cap s
  have HLN : Hid (ts.length = ts.length) := rfl
  have HD : Hid (hx (bt (Ct.n0 33 d).text 1) = dsF d 0) := dig_ext ht hnd
  clear hop
  generalize hN : ts.length = n at *
  generalize hTX : (Ct.n0 33 d).text = T at *
  have HTX := Lib.hid hTX
  clear hTX
  have hs2 : 1 + 1 ≤ T.size → 1 ≤ 1 → ¬ ((T.size : Int) ≤ 1) := fun _ _ => by omega
  have hs3 := hs2 hs1
  clear hs2
  have hl' : ∀ o p, ((w.alloc o).alloc p).cell? ⟨g, n, none⟩ = some (.string T) := fun o p => cell_grown hl (below_new (below_new (Below.refl _ _) _) _)
  go_enter Tryz.func46, Tryz.ntmps46
  go_wp2_with fail
  go_region
  generalize (((w.alloc (Obj.cells #[.slice (some ⟨g, 0, none⟩) (n + 1) cap, .int .i64 s] 38)).alloc (Obj.cells #[.slice none 0 0, .int .i64 0] 38)).alloc (Obj.cells #[.slice (some ⟨g, 0, none⟩) n cap, .int .i64 s] 38)).drew = W0 at *
  go_wp2_with fail
  refine (HPARTS _).mono ?_
  rintro e w1 ⟨⟨g', cap', rfl, hg'⟩, hb1⟩
  have HM := HM0.grown hb1
  clear HPARTS HM0
  have hs4 := hs3 (by decide)
  clear hs3
  have HH := Lib.hid hh
  clear hh
  go_wp2_with fail
  refine wp_region_held_drew (S := fun W => MvS w W n g cap s) (by kernel_rfl) ?_ (fun hS => ?_)
  · exact HM.drew
  refine wpAnyH_take (i := 0) (v := .string T) rfl (by kernel_rfl) (by kernel_rfl) (by kernel_rfl) (fun _ _ _ h => h) (Or.inl ⟨by rfl, ?_⟩) hS ?_
  · intro w hSw
    go_simp
  simp only [Act.put, List.getElem_toArray, List.getElem_cons_succ, List.getElem_cons_zero, List.setIfInBounds_toArray, List.set_cons_zero, List.set_cons_succ]
  refine wpAnyH_take (i := 1) (v := .int .u8 ((bt T 1).toNat : Int)) rfl (by kernel_rfl) (by kernel_rfl) (by kernel_rfl) (fun _ _ _ h => h) (Or.inl ⟨by rfl, ?_⟩) hS ?_
  · intro w hSw
    go_simp
  simp only [Act.put, List.getElem_toArray, List.getElem_cons_succ, List.getElem_cons_zero, List.setIfInBounds_toArray, List.set_cons_zero, List.set_cons_succ]
  refine wpAnyH_take (i := 3) (v := .pointer (some ⟨w.heap.size, 1, none⟩)) rfl (by kernel_rfl) (by kernel_rfl) (by kernel_rfl) (fun _ _ _ h => h) (Or.inl ⟨by rfl, ?_⟩) hS ?_
  · intro w hSw
    go_simp
  simp only [Act.put, List.getElem_toArray, List.getElem_cons_succ, List.getElem_cons_zero, List.setIfInBounds_toArray, List.set_cons_zero, List.set_cons_succ]
  refine wpAnyH_take (i := 4) (v := .int .i64 s) rfl (by kernel_rfl) (by kernel_rfl) (by kernel_rfl) (fun _ _ _ h => h) (Or.inl ⟨by rfl, ?_⟩) hS ?_
  · rintro W hSw
    have h7 := hSw.a.cell2.2
    clear hSw
    go_simp
  simp only [Act.put, List.getElem_toArray, List.getElem_cons_succ, List.getElem_cons_zero, List.setIfInBounds_toArray, List.set_cons_zero, List.set_cons_succ]
  refine wpAnyH_ready (rs := [2]) (by kernel_rfl) (by simp) ?_
  refine AllReadyH.cons rfl (fun K hK => ?_) AllReadyH.nil
  rw [if_pos (by rfl)]
  refine op_call 72 _ _ rfl (enters_of Tryz.func72 (by kernel_rfl) rfl) _ (spec_l2Hex _ _) rfl ?_
  rintro e w3 ⟨rfl, rfl⟩
  refine ⟨_, rfl, ?_⟩
  refine hK.out _ _ ?_ (fun hS1 => ?_)
  · exact hS
  clear hK K
  replace hS := hS1
  clear hS1
  simp only [Act.put, List.getElem_toArray, List.getElem_cons_succ, List.getElem_cons_zero, List.setIfInBounds_toArray, List.set_cons_zero, List.set_cons_succ]
  rw [HD.out]
  refine wpAnyH_ready (rs := [5]) (by kernel_rfl) (by simp) ?_
  refine AllReadyH.cons rfl (fun K hK => ?_) AllReadyH.nil
  rw [if_pos (by rfl)]
  refine op_call 47 _ _ rfl (enters_of Tryz.func47 (by kernel_rfl) rfl) _ (spec_l1Has _ s _ (by omega)) rfl ?_
  rintro e w4 ⟨rfl, rfl⟩
  refine ⟨_, rfl, ?_⟩
  refine hK.out _ _ ?_ (fun hS1 => ?_)
  · exact hS
  clear hK K
  replace hS := hS1
  clear hS1
  simp only [Act.put, List.getElem_toArray, List.getElem_cons_succ, List.getElem_cons_zero, List.setIfInBounds_toArray, List.set_cons_zero, List.set_cons_succ]
  rw [HH.out]
  refine wpAnyH_take (i := 6) (v := .bool false) rfl (by kernel_rfl) (by kernel_rfl) (by kernel_rfl) (fun _ _ _ h => h) (Or.inl ⟨by rfl, ?_⟩) hS ?_
  · intro w hSw
    go_simp
  simp only [Act.put, List.getElem_toArray, List.getElem_cons_succ, List.getElem_cons_zero, List.setIfInBounds_toArray, List.set_cons_zero, List.set_cons_succ]
  refine wpAnyH_done (by kernel_rfl) ?_ _
  replace HM := hS
  go_wp2_with (first
    | (refine wp_store_Blk rfl _ _ _ rfl (w.heap.size + 1) rfl rfl HM.z at_i rfl (by simp [Value.oneCell']) ?_)
    | (refine wp_load_Blk rfl _ _ rfl (w.heap.size + 1 + 1) rfl HM.r hu rfl at_i ?_))
  refine ret_Blk2 rfl (w.heap.size + 1) rfl (HM.z.setRow _) hu rfl at_i rfl ⟨below_setRow HM.b (by omega) _, ?_⟩
  have e9 : (Ct.n0 33 d).next s = .go [] := by show (if has (dsF d 0) s then Nx.go [] else Nx.stop true) = _; rw [HH.out]; rfl
  rw [e9]
  show ∃ g2 cap2, _ ∧ _ ∧ _
  rw [← hN]
  refine ⟨g, cap, rfl, ⟨fun j x hj => ?_⟩, by show ts.length ≤ cap; omega⟩
  exact cell_kept (cell_grown_b (hr.lies j x hj) HM.b) (setRow_other _ _ _ _ (by have := block_lt_of_cell (hr.lies j x hj); show g ≠ _; have : g < w.heap.size := this; omega))

theorem spec_mv33false (d : List Int) (hnd : d.length = 1) (ts : List Ct) (s : Nat) (hs : s < 4) (g cap : Nat) (w : World) (ht : (Ct.n0 33 d).WF) (hlen : (Ct.n0 33 d).len ≤ 200) (hT : Todo w g (Ct.n0 33 d :: ts)) (hn : ts.length ≤ 100000) (hcap : ts.length + 1 ≤ cap) (hh : has (dsF d 0) s = false) :
    Calls Tryz.prog 46 #[.agg #[.slice (some ⟨g, 0, none⟩) (ts.length + 1) cap, .int .i64 s]] w (Moved (Ct.n0 33 d) s ts g cap w) := by
  obtain ⟨fs, hu⟩ := at_u
  have hl := hT.last
  have hr := hT.rest
  have hop := op_text (Ct.n0 33 d)
  have hb0 : ((bt (Ct.n0 33 d).text 0).toNat : Int) = 33 := by rw [hop]; rfl
  have hs0 : 0 < (Ct.n0 33 d).text.size := by rw [Ct.text_size]; exact (Ct.n0 33 d).len_pos
  have hs1 : 1 + 1 ≤ (Ct.n0 33 d).text.size := by rw [Ct.text_size]; have := (Ct.n0 33 d).len_head; rw [show (Ct.n0 33 d).ds.length = 1 from hnd] at this; exact this
  have HPARTS : ∀ W : World, Calls Tryz.prog 52 #[.string (Ct.n0 33 d).text] W fun e w' => (∃ g cap, e = .returned (.slice (some ⟨g, 0, none⟩) (Ct.n0 33 d).parts.length cap) ∧ TextsAt w' g (Ct.n0 33 d).parts) ∧ Below W.heap.size W w' := fun W => spec_l5Parts (Ct.n0 33 d) ht hlen W
  have HM0 := MvS.mk0 w ts.length g cap s
  have HLN : Hid (ts.length = ts.length) := rfl
  have HD : Hid (hx (bt (Ct.n0 33 d).text 1) = dsF d 0) := dig_ext ht hnd
  clear hop
  generalize hN : ts.length = n at *
  generalize hTX : (Ct.n0 33 d).text = T at *
  have HTX := Lib.hid hTX
  clear hTX
  have hs2 : 1 + 1 ≤ T.size → 1 ≤ 1 → ¬ ((T.size : Int) ≤ 1) := fun _ _ => by omega
  have hs3 := hs2 hs1
  clear hs2
  have hl' : ∀ o p, ((w.alloc o).alloc p).cell? ⟨g, n, none⟩ = some (.string T) := fun o p => cell_grown hl (below_new (below_new (Below.refl _ _) _) _)
  go_enter Tryz.func46, Tryz.ntmps46
  go_wp2_with fail
  go_region
  generalize (((w.alloc (Obj.cells #[.slice (some ⟨g, 0, none⟩) (n + 1) cap, .int .i64 s] 38)).alloc (Obj.cells #[.slice none 0 0, .int .i64 0] 38)).alloc (Obj.cells #[.slice (some ⟨g, 0, none⟩) n cap, .int .i64 s] 38)).drew = W0 at *
  go_wp2_with fail
  refine (HPARTS _).mono ?_
  rintro e w1 ⟨⟨g', cap', rfl, hg'⟩, hb1⟩
  have HM := HM0.grown hb1
  clear HPARTS HM0
  have hs4 := hs3 (by decide)
  clear hs3
  have HH := Lib.hid hh
  clear hh
  go_wp2_with fail
  refine wp_region_held_drew (S := fun W => MvS w W n g cap s) (by kernel_rfl) ?_ (fun hS => ?_)
  · exact HM.drew
  refine wpAnyH_take (i := 0) (v := .string T) rfl (by kernel_rfl) (by kernel_rfl) (by kernel_rfl) (fun _ _ _ h => h) (Or.inl ⟨by rfl, ?_⟩) hS ?_
  · intro w hSw
    go_simp
  simp only [Act.put, List.getElem_toArray, List.getElem_cons_succ, List.getElem_cons_zero, List.setIfInBounds_toArray, List.set_cons_zero, List.set_cons_succ]
  refine wpAnyH_take (i := 1) (v := .int .u8 ((bt T 1).toNat : Int)) rfl (by kernel_rfl) (by kernel_rfl) (by kernel_rfl) (fun _ _ _ h => h) (Or.inl ⟨by rfl, ?_⟩) hS ?_
  · intro w hSw
    go_simp
  simp only [Act.put, List.getElem_toArray, List.getElem_cons_succ, List.getElem_cons_zero, List.setIfInBounds_toArray, List.set_cons_zero, List.set_cons_succ]
  refine wpAnyH_take (i := 3) (v := .pointer (some ⟨w.heap.size, 1, none⟩)) rfl (by kernel_rfl) (by kernel_rfl) (by kernel_rfl) (fun _ _ _ h => h) (Or.inl ⟨by rfl, ?_⟩) hS ?_
  · intro w hSw
    go_simp
  simp only [Act.put, List.getElem_toArray, List.getElem_cons_succ, List.getElem_cons_zero, List.setIfInBounds_toArray, List.set_cons_zero, List.set_cons_succ]
  refine wpAnyH_take (i := 4) (v := .int .i64 s) rfl (by kernel_rfl) (by kernel_rfl) (by kernel_rfl) (fun _ _ _ h => h) (Or.inl ⟨by rfl, ?_⟩) hS ?_
  · rintro W hSw
    have h7 := hSw.a.cell2.2
    clear hSw
    go_simp
  simp only [Act.put, List.getElem_toArray, List.getElem_cons_succ, List.getElem_cons_zero, List.setIfInBounds_toArray, List.set_cons_zero, List.set_cons_succ]
  refine wpAnyH_ready (rs := [2]) (by kernel_rfl) (by simp) ?_
  refine AllReadyH.cons rfl (fun K hK => ?_) AllReadyH.nil
  rw [if_pos (by rfl)]
  refine op_call 72 _ _ rfl (enters_of Tryz.func72 (by kernel_rfl) rfl) _ (spec_l2Hex _ _) rfl ?_
  rintro e w3 ⟨rfl, rfl⟩
  refine ⟨_, rfl, ?_⟩
  refine hK.out _ _ ?_ (fun hS1 => ?_)
  · exact hS
  clear hK K
  replace hS := hS1
  clear hS1
  simp only [Act.put, List.getElem_toArray, List.getElem_cons_succ, List.getElem_cons_zero, List.setIfInBounds_toArray, List.set_cons_zero, List.set_cons_succ]
  rw [HD.out]
  refine wpAnyH_ready (rs := [5]) (by kernel_rfl) (by simp) ?_
  refine AllReadyH.cons rfl (fun K hK => ?_) AllReadyH.nil
  rw [if_pos (by rfl)]
  refine op_call 47 _ _ rfl (enters_of Tryz.func47 (by kernel_rfl) rfl) _ (spec_l1Has _ s _ (by omega)) rfl ?_
  rintro e w4 ⟨rfl, rfl⟩
  refine ⟨_, rfl, ?_⟩
  refine hK.out _ _ ?_ (fun hS1 => ?_)
  · exact hS
  clear hK K
  replace hS := hS1
  clear hS1
  simp only [Act.put, List.getElem_toArray, List.getElem_cons_succ, List.getElem_cons_zero, List.setIfInBounds_toArray, List.set_cons_zero, List.set_cons_succ]
  rw [HH.out]
  refine wpAnyH_take (i := 6) (v := .bool true) rfl (by kernel_rfl) (by kernel_rfl) (by kernel_rfl) (fun _ _ _ h => h) (Or.inl ⟨by rfl, ?_⟩) hS ?_
  · intro w hSw
    go_simp
  simp only [Act.put, List.getElem_toArray, List.getElem_cons_succ, List.getElem_cons_zero, List.setIfInBounds_toArray, List.set_cons_zero, List.set_cons_succ]
  refine wpAnyH_done (by kernel_rfl) ?_ _
  replace HM := hS
  go_wp2_with (first
    | (refine wp_store_Blk rfl _ _ _ rfl (w.heap.size + 1) rfl rfl HM.z at_i rfl (by simp [Value.oneCell']) ?_)
    | (refine wp_load_Blk rfl _ _ rfl (w.heap.size) rfl HM.a hu rfl at_i ?_))
  refine ret_Blk2 rfl (w.heap.size + 1) rfl (HM.z.setRow _) hu rfl at_i rfl ⟨below_setRow HM.b (by omega) _, ?_⟩
  have e9 : (Ct.n0 33 d).next s = .stop true := by show (if has (dsF d 0) s then Nx.go [] else Nx.stop true) = _; rw [HH.out]; rfl
  rw [e9]
  rw [hN]; rfl

theorem spec_mv63true (d : List Int) (hnd : d.length = 1) (ts : List Ct) (s : Nat) (hs : s < 4) (g cap : Nat) (w : World) (ht : (Ct.n0 63 d).WF) (hlen : (Ct.n0 63 d).len ≤ 200) (hT : Todo w g (Ct.n0 63 d :: ts)) (hn : ts.length ≤ 100000) (hcap : ts.length + 1 ≤ cap) (hh : has (dsF d 0) s = true) :
    Calls Tryz.prog 46 #[.agg #[.slice (some ⟨g, 0, none⟩) (ts.length + 1) cap, .int .i64 s]] w (Moved (Ct.n0 63 d) s ts g cap w) := by
  obtain ⟨fs, hu⟩ := at_u
  have hl := hT.last
  have hr := hT.rest
  have hop := op_text (Ct.n0 63 d)
  have hb0 : ((bt (Ct.n0 63 d).text 0).toNat : Int) = 63 := by rw [hop]; rfl
  have hs0 : 0 < (Ct.n0 63 d).text.size := by rw [Ct.text_size]; exact (Ct.n0 63 d).len_pos
  have hs1 : 1 + 1 ≤ (Ct.n0 63 d).text.size := by rw [Ct.text_size]; have := (Ct.n0 63 d).len_head; rw [show (Ct.n0 63 d).ds.length = 1 from hnd] at this; exact this
  have HPARTS : ∀ W : World, Calls Tryz.prog 52 #[.string (Ct.n0 63 d).text] W fun e w' => (∃ g cap, e = .returned (.slice (some ⟨g, 0, none⟩) (Ct.n0 63 d).parts.length cap) ∧ TextsAt w' g (Ct.n0 63 d).parts) ∧ Below W.heap.size W w' := fun W => spec_l5Parts (Ct.n0 63 d) ht hlen W
  have HM0 := MvS.mk0 w ts.length g cap s
  have HLN : Hid (ts.length = ts.length) := rfl
  have HD : Hid (hx (bt (Ct.n0 63 d).text 1) = dsF d 0) := dig_ext ht hnd
  clear hop
  generalize hN : ts.length = n at *
  generalize hTX : (Ct.n0 63 d).text = T at *
  have HTX := Lib.hid hTX
  clear hTX
  have hs2 : 1 + 1 ≤ T.size → 1 ≤ 1 → ¬ ((T.size : Int) ≤ 1) := fun _ _ => by omega
  have hs3 := hs2 hs1
  clear hs2
  have hl' : ∀ o p, ((w.alloc o).alloc p).cell? ⟨g, n, none⟩ = some (.string T) := fun o p => cell_grown hl (below_new (below_new (Below.refl _ _) _) _)
  go_enter Tryz.func46, Tryz.ntmps46
  go_wp2_with fail
  go_region
  generalize (((w.alloc (Obj.cells #[.slice (some ⟨g, 0, none⟩) (n + 1) cap, .int .i64 s] 38)).alloc (Obj.cells #[.slice none 0 0, .int .i64 0] 38)).alloc (Obj.cells #[.slice (some ⟨g, 0, none⟩) n cap, .int .i64 s] 38)).drew = W0 at *
  go_wp2_with fail
  refine (HPARTS _).mono ?_
  rintro e w1 ⟨⟨g', cap', rfl, hg'⟩, hb1⟩
  have HM := HM0.grown hb1
  clear HPARTS HM0
  have hs4 := hs3 (by decide)
  clear hs3
  have HH := Lib.hid hh
  clear hh
  go_wp2_with fail
  refine wp_region_held_drew (S := fun W => MvS w W n g cap s) (by kernel_rfl) ?_ (fun hS => ?_)
  · exact HM.drew
  refine wpAnyH_take (i := 0) (v := .string T) rfl (by kernel_rfl) (by kernel_rfl) (by kernel_rfl) (fun _ _ _ h => h) (Or.inl ⟨by rfl, ?_⟩) hS ?_
  · intro w hSw
    go_simp
  simp only [Act.put, List.getElem_toArray, List.getElem_cons_succ, List.getElem_cons_zero, List.setIfInBounds_toArray, List.set_cons_zero, List.set_cons_succ]
  refine wpAnyH_take (i := 1) (v := .int .u8 ((bt T 1).toNat : Int)) rfl (by kernel_rfl) (by kernel_rfl) (by kernel_rfl) (fun _ _ _ h => h) (Or.inl ⟨by rfl, ?_⟩) hS ?_
  · intro w hSw
    go_simp
  simp only [Act.put, List.getElem_toArray, List.getElem_cons_succ, List.getElem_cons_zero, List.setIfInBounds_toArray, List.set_cons_zero, List.set_cons_succ]
  refine wpAnyH_take (i := 3) (v := .pointer (some ⟨w.heap.size, 1, none⟩)) rfl (by kernel_rfl) (by kernel_rfl) (by kernel_rfl) (fun _ _ _ h => h) (Or.inl ⟨by rfl, ?_⟩) hS ?_
  · intro w hSw
    go_simp
  simp only [Act.put, List.getElem_toArray, List.getElem_cons_succ, List.getElem_cons_zero, List.setIfInBounds_toArray, List.set_cons_zero, List.set_cons_succ]
  refine wpAnyH_take (i := 4) (v := .int .i64 s) rfl (by kernel_rfl) (by kernel_rfl) (by kernel_rfl) (fun _ _ _ h => h) (Or.inl ⟨by rfl, ?_⟩) hS ?_
  · rintro W hSw
    have h7 := hSw.a.cell2.2
    clear hSw
    go_simp
  simp only [Act.put, List.getElem_toArray, List.getElem_cons_succ, List.getElem_cons_zero, List.setIfInBounds_toArray, List.set_cons_zero, List.set_cons_succ]
  refine wpAnyH_ready (rs := [2]) (by kernel_rfl) (by simp) ?_
  refine AllReadyH.cons rfl (fun K hK => ?_) AllReadyH.nil
  rw [if_pos (by rfl)]
  refine op_call 72 _ _ rfl (enters_of Tryz.func72 (by kernel_rfl) rfl) _ (spec_l2Hex _ _) rfl ?_
  rintro e w3 ⟨rfl, rfl⟩
  refine ⟨_, rfl, ?_⟩
  refine hK.out _ _ ?_ (fun hS1 => ?_)
  · exact hS
  clear hK K
  replace hS := hS1
  clear hS1
  simp only [Act.put, List.getElem_toArray, List.getElem_cons_succ, List.getElem_cons_zero, List.setIfInBounds_toArray, List.set_cons_zero, List.set_cons_succ]
  rw [HD.out]
  refine wpAnyH_ready (rs := [5]) (by kernel_rfl) (by simp) ?_
  refine AllReadyH.cons rfl (fun K hK => ?_) AllReadyH.nil
  rw [if_pos (by rfl)]
  refine op_call 47 _ _ rfl (enters_of Tryz.func47 (by kernel_rfl) rfl) _ (spec_l1Has _ s _ (by omega)) rfl ?_
  rintro e w4 ⟨rfl, rfl⟩
  refine ⟨_, rfl, ?_⟩
  refine hK.out _ _ ?_ (fun hS1 => ?_)
  · exact hS
  clear hK K
  replace hS := hS1
  clear hS1
  simp only [Act.put, List.getElem_toArray, List.getElem_cons_succ, List.getElem_cons_zero, List.setIfInBounds_toArray, List.set_cons_zero, List.set_cons_succ]
  rw [HH.out]
  refine wpAnyH_take (i := 6) (v := .bool false) rfl (by kernel_rfl) (by kernel_rfl) (by kernel_rfl) (fun _ _ _ h => h) (Or.inl ⟨by rfl, ?_⟩) hS ?_
  · intro w hSw
    go_simp
  simp only [Act.put, List.getElem_toArray, List.getElem_cons_succ, List.getElem_cons_zero, List.setIfInBounds_toArray, List.set_cons_zero, List.set_cons_succ]
  refine wpAnyH_done (by kernel_rfl) ?_ _
  replace HM := hS
  go_wp2_with (first
    | (refine wp_store_Blk rfl _ _ _ rfl (w.heap.size + 1) rfl rfl HM.z at_i rfl (by simp [Value.oneCell']) ?_)
    | (refine wp_load_Blk rfl _ _ rfl (w.heap.size + 1 + 1) rfl HM.r hu rfl at_i ?_))
  refine ret_Blk2 rfl (w.heap.size + 1) rfl (HM.z.setRow _) hu rfl at_i rfl ⟨below_setRow HM.b (by omega) _, ?_⟩
  have e9 : (Ct.n0 63 d).next s = .go [] := by show (if has (dsF d 0) s then Nx.go [] else Nx.stop false) = _; rw [HH.out]; rfl
  rw [e9]
  show ∃ g2 cap2, _ ∧ _ ∧ _
  rw [← hN]
  refine ⟨g, cap, rfl, ⟨fun j x hj => ?_⟩, by show ts.length ≤ cap; omega⟩
  exact cell_kept (cell_grown_b (hr.lies j x hj) HM.b) (setRow_other _ _ _ _ (by have := block_lt_of_cell (hr.lies j x hj); show g ≠ _; have : g < w.heap.size := this; omega))

theorem spec_mv63false (d : List Int) (hnd : d.length = 1) (ts : List Ct) (s : Nat) (hs : s < 4) (g cap : Nat) (w : World) (ht : (Ct.n0 63 d).WF) (hlen : (Ct.n0 63 d).len ≤ 200) (hT : Todo w g (Ct.n0 63 d :: ts)) (hn : ts.length ≤ 100000) (hcap : ts.length + 1 ≤ cap) (hh : has (dsF d 0) s = false) :
    Calls Tryz.prog 46 #[.agg #[.slice (some ⟨g, 0, none⟩) (ts.length + 1) cap, .int .i64 s]] w (Moved (Ct.n0 63 d) s ts g cap w) := by
  obtain ⟨fs, hu⟩ := at_u
  have hl := hT.last
  have hr := hT.rest
  have hop := op_text (Ct.n0 63 d)
  have hb0 : ((bt (Ct.n0 63 d).text 0).toNat : Int) = 63 := by rw [hop]; rfl
  have hs0 : 0 < (Ct.n0 63 d).text.size := by rw [Ct.text_size]; exact (Ct.n0 63 d).len_pos
  have hs1 : 1 + 1 ≤ (Ct.n0 63 d).text.size := by rw [Ct.text_size]; have := (Ct.n0 63 d).len_head; rw [show (Ct.n0 63 d).ds.length = 1 from hnd] at this; exact this
  have HPARTS : ∀ W : World, Calls Tryz.prog 52 #[.string (Ct.n0 63 d).text] W fun e w' => (∃ g cap, e = .returned (.slice (some ⟨g, 0, none⟩) (Ct.n0 63 d).parts.length cap) ∧ TextsAt w' g (Ct.n0 63 d).parts) ∧ Below W.heap.size W w' := fun W => spec_l5Parts (Ct.n0 63 d) ht hlen W
  have HM0 := MvS.mk0 w ts.length g cap s
  have HLN : Hid (ts.length = ts.length) := rfl
  have HD : Hid (hx (bt (Ct.n0 63 d).text 1) = dsF d 0) := dig_ext ht hnd
  clear hop
  generalize hN : ts.length = n at *
  generalize hTX : (Ct.n0 63 d).text = T at *
  have HTX := Lib.hid hTX
  clear hTX
  have hs2 : 1 + 1 ≤ T.size → 1 ≤ 1 → ¬ ((T.size : Int) ≤ 1) := fun _ _ => by omega
  have hs3 := hs2 hs1
  clear hs2
  have hl' : ∀ o p, ((w.alloc o).alloc p).cell? ⟨g, n, none⟩ = some (.string T) := fun o p => cell_grown hl (below_new (below_new (Below.refl _ _) _) _)
  go_enter Tryz.func46, Tryz.ntmps46
  go_wp2_with fail
  go_region
  generalize (((w.alloc (Obj.cells #[.slice (some ⟨g, 0, none⟩) (n + 1) cap, .int .i64 s] 38)).alloc (Obj.cells #[.slice none 0 0, .int .i64 0] 38)).alloc (Obj.cells #[.slice (some ⟨g, 0, none⟩) n cap, .int .i64 s] 38)).drew = W0 at *
  go_wp2_with fail
  refine (HPARTS _).mono ?_
  rintro e w1 ⟨⟨g', cap', rfl, hg'⟩, hb1⟩
  have HM := HM0.grown hb1
  clear HPARTS HM0
  have hs4 := hs3 (by decide)
  clear hs3
  have HH := Lib.hid hh
  clear hh
  go_wp2_with fail
  refine wp_region_held_drew (S := fun W => MvS w W n g cap s) (by kernel_rfl) ?_ (fun hS => ?_)
  · exact HM.drew
  refine wpAnyH_take (i := 0) (v := .string T) rfl (by kernel_rfl) (by kernel_rfl) (by kernel_rfl) (fun _ _ _ h => h) (Or.inl ⟨by rfl, ?_⟩) hS ?_
  · intro w hSw
    go_simp
  simp only [Act.put, List.getElem_toArray, List.getElem_cons_succ, List.getElem_cons_zero, List.setIfInBounds_toArray, List.set_cons_zero, List.set_cons_succ]
  refine wpAnyH_take (i := 1) (v := .int .u8 ((bt T 1).toNat : Int)) rfl (by kernel_rfl) (by kernel_rfl) (by kernel_rfl) (fun _ _ _ h => h) (Or.inl ⟨by rfl, ?_⟩) hS ?_
  · intro w hSw
    go_simp
  simp only [Act.put, List.getElem_toArray, List.getElem_cons_succ, List.getElem_cons_zero, List.setIfInBounds_toArray, List.set_cons_zero, List.set_cons_succ]
  refine wpAnyH_take (i := 3) (v := .pointer (some ⟨w.heap.size, 1, none⟩)) rfl (by kernel_rfl) (by kernel_rfl) (by kernel_rfl) (fun _ _ _ h => h) (Or.inl ⟨by rfl, ?_⟩) hS ?_
  · intro w hSw
    go_simp
  simp only [Act.put, List.getElem_toArray, List.getElem_cons_succ, List.getElem_cons_zero, List.setIfInBounds_toArray, List.set_cons_zero, List.set_cons_succ]
  refine wpAnyH_take (i := 4) (v := .int .i64 s) rfl (by kernel_rfl) (by kernel_rfl) (by kernel_rfl) (fun _ _ _ h => h) (Or.inl ⟨by rfl, ?_⟩) hS ?_
  · rintro W hSw
    have h7 := hSw.a.cell2.2
    clear hSw
    go_simp
  simp only [Act.put, List.getElem_toArray, List.getElem_cons_succ, List.getElem_cons_zero, List.setIfInBounds_toArray, List.set_cons_zero, List.set_cons_succ]
  refine wpAnyH_ready (rs := [2]) (by kernel_rfl) (by simp) ?_
  refine AllReadyH.cons rfl (fun K hK => ?_) AllReadyH.nil
  rw [if_pos (by rfl)]
  refine op_call 72 _ _ rfl (enters_of Tryz.func72 (by kernel_rfl) rfl) _ (spec_l2Hex _ _) rfl ?_
  rintro e w3 ⟨rfl, rfl⟩
  refine ⟨_, rfl, ?_⟩
  refine hK.out _ _ ?_ (fun hS1 => ?_)
  · exact hS
  clear hK K
  replace hS := hS1
  clear hS1
  simp only [Act.put, List.getElem_toArray, List.getElem_cons_succ, List.getElem_cons_zero, List.setIfInBounds_toArray, List.set_cons_zero, List.set_cons_succ]
  rw [HD.out]
  refine wpAnyH_ready (rs := [5]) (by kernel_rfl) (by simp) ?_
  refine AllReadyH.cons rfl (fun K hK => ?_) AllReadyH.nil
  rw [if_pos (by rfl)]
  refine op_call 47 _ _ rfl (enters_of Tryz.func47 (by kernel_rfl) rfl) _ (spec_l1Has _ s _ (by omega)) rfl ?_
  rintro e w4 ⟨rfl, rfl⟩
  refine ⟨_, rfl, ?_⟩
  refine hK.out _ _ ?_ (fun hS1 => ?_)
  · exact hS
  clear hK K
  replace hS := hS1
  clear hS1
  simp only [Act.put, List.getElem_toArray, List.getElem_cons_succ, List.getElem_cons_zero, List.setIfInBounds_toArray, List.set_cons_zero, List.set_cons_succ]
  rw [HH.out]
  refine wpAnyH_take (i := 6) (v := .bool true) rfl (by kernel_rfl) (by kernel_rfl) (by kernel_rfl) (fun _ _ _ h => h) (Or.inl ⟨by rfl, ?_⟩) hS ?_
  · intro w hSw
    go_simp
  simp only [Act.put, List.getElem_toArray, List.getElem_cons_succ, List.getElem_cons_zero, List.setIfInBounds_toArray, List.set_cons_zero, List.set_cons_succ]
  refine wpAnyH_done (by kernel_rfl) ?_ _
  replace HM := hS
  go_wp2_with (first
    | (refine wp_store_Blk rfl _ _ _ rfl (w.heap.size + 1) rfl rfl HM.z at_i rfl (by simp [Value.oneCell']) ?_)
    | (refine wp_load_Blk rfl _ _ rfl (w.heap.size) rfl HM.a hu rfl at_i ?_))
  refine ret_Blk2 rfl (w.heap.size + 1) rfl (HM.z.setRow _) hu rfl at_i rfl ⟨below_setRow HM.b (by omega) _, ?_⟩
  have e9 : (Ct.n0 63 d).next s = .stop false := by show (if has (dsF d 0) s then Nx.go [] else Nx.stop false) = _; rw [HH.out]; rfl
  rw [e9]
  rw [hN]; rfl

end Go.Proofs.YtaeibhpkcikaaaaGreatDoor
