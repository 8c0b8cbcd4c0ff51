/- Plays: the reference's moves up to a choice, and its plays. -/
import Derived.Test.YtaeibhpkcikaaaaGreatDoorSpP5
namespace Go.Proofs.YtaeibhpkcikaaaaGreatDoor
set_option linter.unusedVariables false
set_option linter.unusedSimpArgs false
open Go.RowKit Go.Shelf
set_option maxRecDepth 100000
set_option maxHeartbeats 1000000

section
variable {P : Program} {a : Act} {w : World}
theorem ret_Blk3 {fn : Func} {R : Ending → World → Prop} {p u v : Tmp} {ty : TypeId} (h : fn.results = #[.cell p ty, .tmp u, .tmp v]) (g : Nat) (hp : a.tmps.getD p undef = .pointer (some ⟨g, 0, none⟩)) {t : TypeId} {c : Array Value} {d : TypeDesc}
    (hg : Blk w g t c) (hu : P.underlying ty = some d) (hd : (match d with | .struct _ | .array _ _ => true | _ => false) = true) (hi : (P.info? ty).map (·.size) = some c.size)
    (hdef : a.defers = []) (hR : R (.returned (.tuple #[.agg c, a.tmps.getD u undef, a.tmps.getD v undef])) w) : bodyPost P fn R .ret a w := by
  refine bodyPost_ret (v := .tuple #[.agg c, a.tmps.getD u undef, a.tmps.getD v undef]) ?_ hdef hR
  have hp' : a.tmps[p]?.getD undef = .pointer (some ⟨g, 0, none⟩) := by simpa using hp
  simp only [results, h]
  simp [Sem.run_bind, Result.andThen, hp', asAddr, run_loadVar_row w g t ty c (0, 0) d hg.eq hu hd hi]
end
/-- how the reference names an end -/
def toldF : Fin → ByteArray
  | .done => ⟨#[100, 111, 110, 101]⟩
  | .long => ⟨#[108, 111, 110, 103]⟩
  | .broke a => whoN a
  | .pick => ⟨#[99, 104, 111, 105, 99, 101]⟩
def RunEnd (r : Nat × List Ct × Fin) (s : Nat) (w : World) (e : Ending) (w' : World) : Prop := Below w.heap.size w w' ∧
  ∃ g cap, e = .returned (.tuple #[.agg #[.slice (some ⟨g, 0, none⟩) r.2.1.length cap, .int .i64 s], .string (toldF r.2.2), .int .i64 (r.1 : Nat)]) ∧ Todo w' g r.2.1 ∧ r.2.1.length ≤ cap
/-- what a list of statements must be -/
def FitC (ts : List Ct) : Prop := ∀ t ∈ ts, t.WF ∧ t.len ≤ 200
theorem FitC.next {t : Ct} {ts : List Ct} (h : FitC (t :: ts)) {s : Nat} {l : List Ct} (e : t.next s = .go l) : FitC (l ++ ts) ∧ l.length ≤ 2 := by
  have ht := h t (by simp)
  have hr : FitC ts := fun x hx => h x (by simp [hx])
  have key : (∀ x ∈ l, x = t ∨ x ∈ t.parts) ∧ l.length ≤ 2 := by
    cases t with
    | n0 o d =>
      simp only [Ct.next] at e
      repeat' split at e
      all_goals first | (cases e; simp) | cases e
    | n1 o d x =>
      simp only [Ct.next] at e
      repeat' split at e
      all_goals first | (cases e; simp [Ct.parts]) | cases e
    | n2 o d x y =>
      simp only [Ct.next] at e
      repeat' split at e
      all_goals first | (cases e; simp [Ct.parts]) | cases e
  refine ⟨fun x hx => ?_, key.2⟩
  rw [List.mem_append] at hx
  rcases hx with hx | hx
  · rcases key.1 x hx with rfl | hp
    · exact ht
    · exact ⟨Ct.parts_wf ht.1 x hp, by have := Ct.len_part hp; omega⟩
  · exact hr x hx
theorem run_go {n s : Nat} {t : Ct} {ts l : List Ct} (h : t.next s = .go l) : run (n + 1) s (t :: ts) = run n s (l ++ ts) := by simp only [run, h]
theorem run_stop {n s : Nat} {t : Ct} {ts : List Ct} {a : Bool} (h : t.next s = .stop a) : run (n + 1) s (t :: ts) = (n + 1, t :: ts, .broke a) := by simp only [run, h]
theorem run_pick1 {n s : Nat} {t : Ct} {ts : List Ct} (h : t.next s = .pick) (ho : (t.opts s).isEmpty = true) : run (n + 1) s (t :: ts) = (n + 1, t :: ts, .broke t.who) := by simp only [run, h, ho, if_true]
theorem run_pick2 {n s : Nat} {t : Ct} {ts : List Ct} (h : t.next s = .pick) (ho : (t.opts s).isEmpty = false) : run (n + 1) s (t :: ts) = (n + 1, t :: ts, .pick) := by simp only [run, h, ho]; rfl
theorem Todo.setRow {w : World} {g b : Nat} {ts : List Ct} {T : TypeId} {p : Option Addr} {l c i : Nat} (h : Todo w g ts) (hB : Blk w b T #[.slice p l c, .int .i64 i]) (d : Array Value) : Todo (w.setRow b d) g ts := ⟨fun j x hj => by
  have hc := h.lies j x hj
  refine cell_kept hc (setRow_other _ _ _ _ fun e => ?_)
  rw [e, cell_of_row _ _ j _ _ _ hB.eq] at hc
  match j, hc with
  | 0, hc => simp at hc
  | 1, hc => simp at hc
  | j + 2, hc => simp at hc⟩
structure RunAt (w wr : World) (n s : Nat) (ts : List Ct) (m : Nat) (us : List Ct) (g cap : Nat) : Prop where
  run : run m s us = run n s ts
  fit : FitC us
  len : us.length + m ≤ 1000
  hcap : us.length ≤ cap
  a : Blk wr w.heap.size 38 #[.slice (some ⟨g, 0, none⟩) us.length cap, .int .i64 s]
  z : Blk wr (w.heap.size + 1) 38 #[.slice none 0 0, .int .i64 0]
  t : Todo wr g us
  b : Below w.heap.size w wr
theorem RunAt.grown {w wr wr' : World} {n s : Nat} {ts : List Ct} {m : Nat} {us : List Ct} {g cap : Nat} (h : RunAt w wr n s ts m us g cap) (hb : Below wr.heap.size wr wr') : RunAt w wr' n s ts m us g cap :=
  ⟨h.run, h.fit, h.len, h.hcap, h.a.grown hb, h.z.grown hb, h.t.grown hb, below_step h.b hb⟩
/-- the end: the place is handed back -/
theorem RunAt.done {w wr : World} {n s : Nat} {ts : List Ct} {m : Nat} {us : List Ct} {g cap : Nat} (h : RunAt w wr n s ts m us g cap) (e : Ending) (he : e = .returned (.tuple #[.agg #[.slice (some ⟨g, 0, none⟩) us.length cap, .int .i64 s], .string (toldF (Go.Proofs.YtaeibhpkcikaaaaGreatDoor.run n s ts).2.2), .int .i64 (m : Nat)])) (h1 : (Go.Proofs.YtaeibhpkcikaaaaGreatDoor.run n s ts).1 = m) (h2 : (Go.Proofs.YtaeibhpkcikaaaaGreatDoor.run n s ts).2.1 = us) :
    RunEnd (Go.Proofs.YtaeibhpkcikaaaaGreatDoor.run n s ts) s w e (wr.setRow (w.heap.size + 1) #[.slice (some ⟨g, 0, none⟩) us.length cap, .int .i64 s]) := by
  subst he
  refine ⟨below_setRow h.b (by omega) _, g, cap, by rw [h1, h2], ⟨fun j x hj => ?_⟩, by rw [h2]; exact h.hcap⟩
  rw [h2] at hj
  exact (h.t.setRow (i := 0) h.z _).lies j x hj

theorem spec_l6Run (n s : Nat) (hs : s < 4) (ts : List Ct) (hf : FitC ts) (hn : ts.length + n ≤ 1000) (g cap : Nat) (hcap : ts.length ≤ cap) (w : World) (hT : Todo w g ts) :
    Calls Tryz.prog 15 #[.agg #[.slice (some ⟨g, 0, none⟩) ts.length cap, .int .i64 s], .int .i64 n] w (RunEnd (run n s ts) s w) := by
  obtain ⟨fs, hu⟩ := at_u
  have hb0 := below_new (below_new (Below.refl w.heap.size w) (Obj.cells #[.slice (some ⟨g, 0, none⟩) ts.length cap, .int .i64 s] 38)) (Obj.cells #[.slice none 0 0, .int .i64 0] 38)
  have H0 : RunAt w ((w.alloc (Obj.cells #[.slice (some ⟨g, 0, none⟩) ts.length cap, .int .i64 s] 38)).alloc (Obj.cells #[.slice none 0 0, .int .i64 0] 38)) n s ts n ts g cap :=
    ⟨rfl, hf, hn, hcap, (Blk.new w _ _).old _, Blk.newAt (w.alloc _) _ _ (w.heap.size + 1) (by simp), hT.grown hb0, hb0⟩
  clear hb0 hT hf hn hcap
  go_enter Tryz.func15, Tryz.ntmps15
  go_wp2_with fail
  go_loopw [1] (fun l wr => ∃ (m : Nat) (us : List Ct) (g' cap' : Nat), l = .int .i64 m ∧ RunAt w wr n s ts m us g' cap') (fun l _ => (intOf l).toNat)
  case atStart => exact ⟨n, ts, g, cap, rfl, H0⟩
  case round =>
    clear H0
    obtain ⟨m, us, g', cap', rfl, H⟩ := hrel
    have HA := H.a
    have HZ := H.z
    cases us with
    | nil =>
      have h1 : run n s ts = (m, [], .done) := by rw [← H.run]; exact run_nil m s
      have HD := H.done _ rfl (by rw [h1]) (by rw [h1])
      rw [h1] at HD
      rw [h1]
      have hc0 := HA.cell2.1
      go_wp2_with (first
        | (refine wp_store_Blk rfl _ _ _ rfl (w.heap.size + 1) rfl rfl HZ at_i rfl (by simp [Value.oneCell']) ?_)
        | (refine wp_load_Blk rfl _ _ rfl w.heap.size rfl HA hu rfl at_i ?_))
      exact ret_Blk3 rfl (w.heap.size + 1) rfl (HZ.setRow _) hu rfl at_i rfl HD
    | cons t us =>
      have hf := H.fit t (by simp)
      have hln := H.len
      have hcp := H.hcap
      simp only [List.length_cons] at hln hcp HA
      have hc0 := HA.cell2.1
      rcases Nat.eq_zero_or_pos m with rfl | hpos
      · have h1 : run n s ts = (0, t :: us, .long) := by rw [← H.run]; rfl
        have HD := H.done _ rfl (by rw [h1]) (by rw [h1])
        rw [h1] at HD
        rw [h1]
        rw [show ((0 : Nat) : Int) = 0 from rfl]
        go_wp2_with (first
        | (refine wp_store_Blk rfl _ _ _ rfl (w.heap.size + 1) rfl rfl HZ at_i rfl (by simp [Value.oneCell']) ?_)
        | (refine wp_load_Blk rfl _ _ rfl w.heap.size rfl HA hu rfl at_i ?_))
        exact ret_Blk3 rfl (w.heap.size + 1) rfl (HZ.setRow _) hu rfl at_i rfl HD
      · have e0 : ((m : Int) == 0) = false := by rw [beq_eq_false_iff_ne]; omega
        have hp1 : 1 ≤ m := hpos
        go_wp2_with (refine wp_load_Blk rfl _ _ rfl w.heap.size rfl HA hu rfl at_i ?_)
        refine (spec_l6Move t us s hs g' cap' wr hf.1 hf.2 H.t (by omega) (by omega)).mono ?_
        rintro e w1 ⟨hb1, hM⟩
        cases hx : t.next s with
        | go l =>
          rw [hx] at hM
          obtain ⟨g2, cap2, rfl, hT2, hc2⟩ := hM
          have hR := run_go (n := m - 1) (ts := us) hx
          rw [Nat.sub_add_cancel hp1, H.run] at hR
          have HR := Lib.hid hR.symm
          have HF := H.fit.next hx
          have H1 := H.grown hb1
          have HLD := Blk.new w1 38 #[.slice (some ⟨g2, 0, none⟩) (l ++ us).length cap2, .int .i64 s]
          have HST := (HA.grown hb1).old (Obj.cells #[.slice (some ⟨g2, 0, none⟩) (l ++ us).length cap2, .int .i64 s] 38)
          have HZ2 := (HZ.grown hb1).old (Obj.cells #[.slice (some ⟨g2, 0, none⟩) (l ++ us).length cap2, .int .i64 s] 38)
          have hb2 := below_new H1.b (Obj.cells #[.slice (some ⟨g2, 0, none⟩) (l ++ us).length cap2, .int .i64 s] 38)
          have hT3 := hT2.grown (below_new (Below.refl _ _) (Obj.cells #[.slice (some ⟨g2, 0, none⟩) (l ++ us).length cap2, .int .i64 s] 38))
          have HLL := Lib.hid (show (l ++ us).length = l.length + us.length from List.length_append)
          generalize (l ++ us).length = kk at *
          clear hR hx H H1 HA HZ hc0 hb1 hT2
          go_wp2_with (first
            | (refine wp_store_BlkNew rfl _ _ _ rfl rfl rfl at_i rfl (by simp [Value.oneCell']) ?_)
            | (refine wp_store_Blk rfl _ _ _ rfl w.heap.size rfl rfl HST at_i rfl (by simp [Value.oneCell']) ?_)
            | (refine wp_load_Blk rfl _ _ rfl w1.heap.size rfl HLD hu rfl at_i ?_))
          go_roundw
          case rel =>
            have h1 := HF.2
            refine ⟨m - 1, l ++ us, g2, cap2, by congr 1; omega, ⟨HR.out, HF.1, ?_, ?_, ?_, HZ2.setRowOther _ _ (by omega), hT3.setRow HST _, below_setRow hb2 (Nat.le_refl _) _⟩⟩
            · rw [List.length_append]; omega
            · rw [List.length_append, ← HLL.out]; exact hc2
            · rw [List.length_append, ← HLL.out]; exact HST.setRow _
          case measure => simp [intOf]; omega
        | stop a =>
          rw [hx] at hM
          subst hM
          have h1 : run n s ts = (m, t :: us, .broke a) := by
            have := run_stop (n := m - 1) (ts := us) hx
            rw [Nat.sub_add_cancel hp1, H.run] at this; exact this
          have H2 := (H.grown hb1).grown (below_new (Below.refl _ _) (Obj.cells #[.slice (some ⟨g', 0, none⟩) (us.length + 1) cap', .int .i64 s] 38))
          have HD := H2.done (.returned (.tuple #[.agg #[.slice (some ⟨g', 0, none⟩) (us.length + 1) cap', .int .i64 s], .string (whoN a), .int .i64 (m : Nat)])) (by rw [h1]; rfl) (by rw [h1]) (by rw [h1])
          have HLD : Blk (w1.alloc (Obj.cells #[.slice (some ⟨g', 0, none⟩) (us.length + 1) cap', .int .i64 s] 38)) _ _ _ := H2.a
          have HST := H2.z
          clear hx H H2 HA HZ hc0 hb1 h1
          cases a
          · rw [show whoN false = ⟨#[100, 101, 109, 111, 110]⟩ from rfl]
            go_wp2_with (first
              | (refine wp_store_BlkNew rfl _ _ _ rfl rfl rfl at_i rfl (by simp [Value.oneCell']) ?_)
              | (refine wp_store_Blk rfl _ _ _ rfl (w.heap.size + 1) rfl rfl HST at_i rfl (by simp [Value.oneCell']) ?_)
              | (refine wp_load_Blk rfl _ _ rfl w.heap.size rfl HLD hu rfl at_i ?_))
            exact ret_Blk3 rfl (w.heap.size + 1) rfl (HST.setRow _) hu rfl at_i rfl HD
          · rw [show whoN true = ⟨#[97, 110, 103, 101, 108]⟩ from rfl]
            go_wp2_with (first
              | (refine wp_store_BlkNew rfl _ _ _ rfl rfl rfl at_i rfl (by simp [Value.oneCell']) ?_)
              | (refine wp_store_Blk rfl _ _ _ rfl (w.heap.size + 1) rfl rfl HST at_i rfl (by simp [Value.oneCell']) ?_)
              | (refine wp_load_Blk rfl _ _ rfl w.heap.size rfl HLD hu rfl at_i ?_))
            exact ret_Blk3 rfl (w.heap.size + 1) rfl (HST.setRow _) hu rfl at_i rfl HD
        | pick =>
          rw [hx] at hM
          subst hM
          have H2 := (H.grown hb1).grown (below_new (Below.refl _ _) (Obj.cells #[.slice (some ⟨g', 0, none⟩) (us.length + 1) cap', .int .i64 s] 38))
          have HLD : Blk (w1.alloc (Obj.cells #[.slice (some ⟨g', 0, none⟩) (us.length + 1) cap', .int .i64 s] 38)) w.heap.size 38 #[.slice (some ⟨g', 0, none⟩) (us.length + 1) cap', .int .i64 s] := H2.a
          have HO := Lib.hid (spec_l6Options t hf.1 us s hs hx g' cap' _ H2.t (by omega))
          have HX := Lib.hid hx
          clear H HA HZ hc0 hb1 hx
          go_wp2_with (first
            | (refine wp_store_BlkNew rfl _ _ _ rfl rfl rfl at_i rfl (by simp [Value.oneCell']) ?_)
            | (refine wp_load_BlkG (by rfl) _ _ rfl w.heap.size rfl HLD hu rfl at_i ?_)
            | (refine wp_load_Blk rfl _ _ rfl w.heap.size rfl HLD hu rfl at_i ?_))
          refine HO.out.mono ?_
          rintro e w2 ⟨rfl, hb2⟩
          have H3 := H2.grown hb2
          clear HO HLD H2 hb2
          cases ho : (t.opts s).isEmpty
          · have h1 : run n s ts = (m, t :: us, .pick) := by
              have := run_pick2 (n := m - 1) (ts := us) HX.out ho
              rw [Nat.sub_add_cancel hp1, H3.run] at this; exact this
            have HD := H3.done (.returned (.tuple #[.agg #[.slice (some ⟨g', 0, none⟩) (us.length + 1) cap', .int .i64 s], .string ⟨#[99, 104, 111, 105, 99, 101]⟩, .int .i64 (m : Nat)])) (by rw [h1]; rfl) (by rw [h1]) (by rw [h1])
            obtain ⟨x, l, hxl⟩ : ∃ x l, t.opts s = x :: l := by
              cases hq : t.opts s with
              | nil => rw [hq] at ho; cases ho
              | cons x l => exact ⟨x, l, rfl⟩
            rw [hxl, show optsB (x :: l) = ⟨(decB x :: l.map decB).toArray⟩ from rfl]
            have HLD := H3.a
            have HST := H3.z
            clear ho hxl h1 H3 HX
            simp only [List.length_cons] at HLD
            go_wp2_with (first
              | (refine wp_store_Blk rfl _ _ _ rfl (w.heap.size + 1) rfl rfl HST at_i rfl (by simp [Value.oneCell']) ?_)
              | (refine wp_load_Blk rfl _ _ rfl w.heap.size rfl HLD hu rfl at_i ?_))
            exact ret_Blk3 rfl (w.heap.size + 1) rfl (HST.setRow _) hu rfl at_i rfl HD
          · have h1 : run n s ts = (m, t :: us, .broke t.who) := by
              have := run_pick1 (n := m - 1) (ts := us) HX.out ho
              rw [Nat.sub_add_cancel hp1, H3.run] at this; exact this
            have e1 : t.opts s = [] := by simpa using ho
            rw [e1, show optsB [] = ⟨#[]⟩ from rfl]
            have H1 := Lib.hid h1
            have HA := H3.a
            have HZ := H3.z
            clear ho e1 h1
            simp only [List.length_cons] at HA
            go_wp2_with fail
            refine wp_region_held_drew (S := fun W => Blk W w.heap.size 38 #[.slice (some ⟨g', 0, none⟩) (us.length + 1) cap', .int .i64 s] ∧ Todo W g' (t :: us)) (by kernel_rfl) ?_ (fun hS => ?_)
            · exact ⟨HA.drew, H3.t.drew⟩
            refine wpAnyH_take (i := 0) (v := .agg #[.slice (some ⟨g', 0, none⟩) (us.length + 1) cap', .int .i64 s]) rfl (by kernel_rfl) (by kernel_rfl) (by kernel_rfl) (fun _ _ _ h => h) (yields_Blk (by rfl) _ _ rfl w.heap.size rfl (fun _ h => h.1) hu rfl at_i) hS ?_
            simp only [Act.put, List.getElem_toArray, List.getElem_cons_succ, List.getElem_cons_zero, List.setIfInBounds_toArray, List.set_cons_zero, List.set_cons_succ]
            refine wpAnyH_take (i := 1) (v := .agg #[.slice (some ⟨g', 0, none⟩) (us.length + 1) cap', .int .i64 s]) rfl (by kernel_rfl) (by kernel_rfl) (by kernel_rfl) (fun _ _ _ h => h) (yields_Blk (by rfl) _ _ rfl w.heap.size rfl (fun _ h => h.1) hu rfl at_i) hS ?_
            simp only [Act.put, List.getElem_toArray, List.getElem_cons_succ, List.getElem_cons_zero, List.setIfInBounds_toArray, List.set_cons_zero, List.set_cons_succ]
            refine wpAnyH_take (i := 3) (v := .int .i64 m) rfl (by kernel_rfl) (by kernel_rfl) (by kernel_rfl) (fun _ _ _ h => h) (Or.inl ⟨by rfl, ?_⟩) hS ?_
            · intro w hSw
              go_simp
            simp only [Act.put, List.getElem_toArray, List.getElem_cons_succ, List.getElem_cons_zero, List.setIfInBounds_toArray, List.set_cons_zero, List.set_cons_succ]
            refine wpAnyH_ready (rs := [2]) (by kernel_rfl) (by simp) ?_
            refine AllReadyH.cons rfl (fun K hK => ?_) AllReadyH.nil
            rw [if_pos (by rfl)]
            refine op_call 17 _ _ rfl (enters_of Tryz.func17 (by kernel_rfl) rfl) _ (spec_l6Who t us s g' cap' _ hS.2 (by omega)) rfl ?_
            rintro e w4 ⟨rfl, hb4⟩
            refine ⟨_, rfl, ?_⟩
            refine hK.out _ _ ?_ (fun hS1 => ?_)
            · exact ⟨hS.1.grown hb4, hS.2.grown hb4⟩
            clear hK K
            replace hS := hS1
            clear hS1
            simp only [Act.put, List.getElem_toArray, List.getElem_cons_succ, List.getElem_cons_zero, List.setIfInBounds_toArray, List.set_cons_zero, List.set_cons_succ]
            have HZ4 := HZ.drew.grown hb4
            have H4 : RunAt w w4 n s ts m (t :: us) g' cap' := ⟨H3.run, H3.fit, H3.len, H3.hcap, hS.1, HZ4, hS.2, below_step H3.b.drew hb4⟩
            have HD := H4.done (.returned (.tuple #[.agg #[.slice (some ⟨g', 0, none⟩) (us.length + 1) cap', .int .i64 s], .string (whoN t.who), .int .i64 (m : Nat)])) (by rw [H1.out]; rfl) (by rw [H1.out]) (by rw [H1.out])
            refine wpAnyH_ready (rs := [4]) (by kernel_rfl) (by simp) ?_
            refine AllReadyH.cons rfl (fun K hK => ?_) AllReadyH.nil
            rw [if_pos (by rfl)]
            refine op_store_Blk _ _ _ rfl (w.heap.size + 1) rfl rfl HZ4 at_i rfl (by simp [Value.oneCell']) ?_
            refine hK.out _ _ ?_ (fun hS1 => ?_)
            · exact ⟨hS.1.setRowOther _ _ (by omega), hS.2.setRow HZ4 _⟩
            clear hK K
            replace hS := hS1
            clear hS1
            simp only [Act.put, List.getElem_toArray, List.getElem_cons_succ, List.getElem_cons_zero, List.setIfInBounds_toArray, List.set_cons_zero, List.set_cons_succ]
            refine wpAnyH_take (i := 5) (v := .string (whoN t.who)) rfl (by kernel_rfl) (by kernel_rfl) (by kernel_rfl) (fun _ _ _ h => h) (Or.inl ⟨by rfl, ?_⟩) hS ?_
            · intro w hSw
              go_simp
            simp only [Act.put, List.getElem_toArray, List.getElem_cons_succ, List.getElem_cons_zero, List.setIfInBounds_toArray, List.set_cons_zero, List.set_cons_succ]
            refine wpAnyH_take (i := 6) (v := .int .i64 m) rfl (by kernel_rfl) (by kernel_rfl) (by kernel_rfl) (fun _ _ _ h => h) (Or.inl ⟨by rfl, ?_⟩) hS ?_
            · intro w hSw
              go_simp
            simp only [Act.put, List.getElem_toArray, List.getElem_cons_succ, List.getElem_cons_zero, List.setIfInBounds_toArray, List.set_cons_zero, List.set_cons_succ]
            refine wpAnyH_done (by kernel_rfl) ?_ _
            go_wp2_with fail
            exact ret_Blk3 rfl (w.heap.size + 1) rfl (HZ4.setRow _) hu rfl at_i rfl HD
end Go.Proofs.YtaeibhpkcikaaaaGreatDoor
