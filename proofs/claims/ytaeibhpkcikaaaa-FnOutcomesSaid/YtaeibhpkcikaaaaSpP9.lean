/- Plays: what all plays come to, the reference. -/
import Derived.Test.YtaeibhpkcikaaaaGN
import Derived.Test.YtaeibhpkcikaaaaGL
namespace Go.Proofs.Ytaeibhpkcikaaaa
set_option linter.unusedVariables false
set_option linter.unusedSimpArgs false
open Go.RowKit Go.Shelf
set_option maxRecDepth 100000
set_option maxHeartbeats 10000000

theorem sm_u : ∃ fs, Try.prog.underlying 100 = some (.struct fs) := ⟨_, Try.underlying100⟩
theorem sm_i : (Try.prog.info? 100).map (·.size) = some 4 := by kernel_rfl
/-- a sum as cells -/
def Sm.cells (a : Sm) : Array Value := #[.int .i64 (a.plays : Nat), .int .i64 a.ends, .bool a.angel, .bool a.demon]
theorem Sm.cells_size (a : Sm) : a.cells.size = 4 := rfl
def SumEnd (a : Sm) (w : World) (e : Ending) (w' : World) : Prop := e = .returned (.agg a.cells) ∧ Below w.heap.size w w'
/-- what an end comes to, for each end -/
theorem spec_allLeaf (f : Fin) (hf : f ≠ .pick) (s : Nat) (hs : s < 4) (ts : List Ct) (g cap : Nat) (w : World)
    (HR : ∀ W, Below w.heap.size w W → Calls Try.prog 95 #[.agg #[.slice (some ⟨g, 0, none⟩) ts.length cap, .int .i64 s], .int .i64 200] W fun e w' => Below W.heap.size W w' ∧ ∃ g2 cap2 n2 m2, e = .returned (.tuple #[.agg #[.slice (some ⟨g2, 0, none⟩) n2 cap2, .int .i64 s], .string (toldF f), .int .i64 m2])) :
    Calls Try.prog 85 #[.agg #[.slice (some ⟨g, 0, none⟩) ts.length cap, .int .i64 s]] w (SumEnd (leafS f s) w) := by
  obtain ⟨fs, hu⟩ := at_u
  obtain ⟨fs2, hu2⟩ := sm_u
  have hb0 := below_new (below_new (Below.refl w.heap.size w) (Obj.cells #[.slice (some ⟨g, 0, none⟩) ts.length cap, .int .i64 s] 69)) (Obj.cells #[.int .i64 0, .int .i64 0, .bool false, .bool false] 100)
  have BA := (Blk.new w 69 #[.slice (some ⟨g, 0, none⟩) ts.length cap, .int .i64 s]).old (Obj.cells #[.int .i64 0, .int .i64 0, .bool false, .bool false] 100)
  have BZ := Blk.newAt (w.alloc (Obj.cells #[.slice (some ⟨g, 0, none⟩) ts.length cap, .int .i64 s] 69)) 100 #[.int .i64 0, .int .i64 0, .bool false, .bool false] (w.heap.size + 1) (by simp)
  have HR2 := HR _ hb0
  clear HR
  go_enter Try.func85, Try.ntmps85
  go_wp2_with (refine wp_load_Blk rfl _ _ rfl w.heap.size rfl BA hu rfl at_i ?_)
  refine HR2.mono ?_
  rintro e w1 ⟨hb1, g2, cap2, n2, m2, rfl⟩
  have BA1 := BA.grown hb1
  have BZ1 := BZ.grown hb1
  have hb := below_step hb0 hb1
  clear HR2 BA BZ
  have BA2 := BA1.setRow #[.slice (some ⟨g2, 0, none⟩) n2 cap2, .int .i64 s]
  have BZ2 := BZ1.setRowOther w.heap.size #[.slice (some ⟨g2, 0, none⟩) n2 cap2, .int .i64 s] (by omega)
  have hb2 := below_setRow hb (Nat.le_refl _) #[.slice (some ⟨g2, 0, none⟩) n2 cap2, .int .i64 s]
  have hcX : ∀ o, ((w1.setRow w.heap.size #[.slice (some ⟨g2, 0, none⟩) n2 cap2, .int .i64 s]).alloc o).cell? ⟨w.heap.size, 1, none⟩ = some (.int .i64 s) := fun o => (BA2.old o).cell2.2
  have hl := BZ1.lt
  cases f with
  | pick => exact absurd rfl hf
  | done =>
    rw [show toldF .done = ⟨#[100, 111, 110, 101]⟩ from rfl]
    go_wp2_with (first
      | (refine wp_store_Blk rfl _ _ _ rfl w.heap.size rfl rfl BA1 at_i rfl (by simp [Value.oneCell']) ?_)
      | (refine wp_store_Blk rfl _ _ _ rfl (w.heap.size + 1) rfl rfl (BZ2.old _) sm_i rfl (by simp [Value.oneCell']) ?_))
    refine ret_Blk rfl (w.heap.size + 1) rfl ((BZ2.old _).setRow _) hu2 rfl sm_i rfl ⟨rfl, below_setRow (below_new hb2 _) (by omega) _⟩
  | long =>
    rw [show toldF .long = ⟨#[108, 111, 110, 103]⟩ from rfl]
    go_wp2_with (first
      | (refine wp_store_Blk rfl _ _ _ rfl w.heap.size rfl rfl BA1 at_i rfl (by simp [Value.oneCell']) ?_)
      | (refine wp_store_Blk rfl _ _ _ rfl (w.heap.size + 1) rfl rfl (BZ2.old _) sm_i rfl (by simp [Value.oneCell']) ?_))
    refine ret_Blk rfl (w.heap.size + 1) rfl ((BZ2.old _).setRow _) hu2 rfl sm_i rfl ⟨rfl, below_setRow (below_new hb2 _) (by omega) _⟩
  | broke a =>
    cases a
    · rw [show toldF (.broke false) = ⟨#[100, 101, 109, 111, 110]⟩ from rfl]
      go_wp2_with (first
        | (refine wp_store_Blk rfl _ _ _ rfl w.heap.size rfl rfl BA1 at_i rfl (by simp [Value.oneCell']) ?_)
        | (refine wp_store_Blk rfl _ _ _ rfl (w.heap.size + 1) rfl rfl (BZ2.old _) sm_i rfl (by simp [Value.oneCell']) ?_))
      refine ret_Blk rfl (w.heap.size + 1) rfl ((BZ2.old _).setRow _) hu2 rfl sm_i rfl ⟨rfl, below_setRow (below_new hb2 _) (by omega) _⟩
    · rw [show toldF (.broke true) = ⟨#[97, 110, 103, 101, 108]⟩ from rfl]
      go_wp2_with (first
        | (refine wp_store_Blk rfl _ _ _ rfl w.heap.size rfl rfl BA1 at_i rfl (by simp [Value.oneCell']) ?_)
        | (refine wp_store_Blk rfl _ _ _ rfl (w.heap.size + 1) rfl rfl (BZ2.old _) sm_i rfl (by simp [Value.oneCell']) ?_))
      refine ret_Blk rfl (w.heap.size + 1) rfl ((BZ2.old _).setRow _) hu2 rfl sm_i rfl ⟨rfl, below_setRow (below_new hb2 _) (by omega) _⟩
theorem len_tot (ts : List Ct) : ts.length ≤ tot ts := by
  induction ts with
  | nil => exact Nat.le_refl _
  | cons t ts ih =>
    have : 1 ≤ t.num := by cases t <;> simp [Ct.num] <;> omega
    simp only [List.length_cons, tot]; omega
structure SumAt (w wr : World) (O : Nat) (t1 : Ct) (us : List Ct) (s g cap : Nat) (sm : Sm) : Prop where
  a : Blk wr w.heap.size 69 #[.slice (some ⟨g, 0, none⟩) (us.length + 1) cap, .int .i64 s]
  z : Blk wr (w.heap.size + 1) 100 #[.int .i64 0, .int .i64 0, .bool false, .bool false]
  o : Blk wr O 100 sm.cells
  t : Todo wr g (t1 :: us)
  b : Below w.heap.size w wr
theorem SumAt.grown {w wr wr' : World} {O : Nat} {t1 : Ct} {us : List Ct} {s g cap : Nat} {a : Sm} (h : SumAt w wr O t1 us s g cap a) (hb : Below wr.heap.size wr wr') : SumAt w wr' O t1 us s g cap a :=
  ⟨h.a.grown hb, h.z.grown hb, h.o.grown hb, h.t.grown hb, below_step h.b hb⟩
theorem SumAt.setB {w wr : World} {O : Nat} {t1 : Ct} {us : List Ct} {s g cap : Nat} {sm : Sm} (h : SumAt w wr O t1 us s g cap sm) {B n0 : Nat} (hn : w.heap.size + 1 < n0) (hO : O < n0) (hg : g < n0) (hB : n0 ≤ B) (d : Array Value) : SumAt w (wr.setRow B d) O t1 us s g cap sm :=
  ⟨h.a.setRowOther _ _ (by omega), h.z.setRowOther _ _ (by omega), h.o.setRowOther _ _ (by omega), ⟨fun j x hj => cell_kept (h.t.lies j x hj) (setRow_other _ _ _ _ (by omega))⟩, below_setRow h.b (by omega) _⟩
theorem Blk.cell4 {w : World} {b : Nat} {t : TypeId} {x y z u : Value} (h : Blk w b t #[x, y, z, u]) : w.cell? ⟨b, 0, none⟩ = some x ∧ w.cell? ⟨b, 1, none⟩ = some y ∧ w.cell? ⟨b, 2, none⟩ = some z ∧ w.cell? ⟨b, 3, none⟩ = some u := by
  refine ⟨?_, ?_, ?_, ?_⟩
  · rw [cell_of_row w b 0 _ _ _ h.eq]; rfl
  · rw [cell_of_row w b 1 _ _ _ h.eq]; rfl
  · rw [cell_of_row w b 2 _ _ _ h.eq]; rfl
  · rw [cell_of_row w b 3 _ _ _ h.eq]; rfl
theorem optsB_at (l : List Nat) (k x : Nat) (h : l[k]? = some x) : bt (optsB l) k = decB x := by
  obtain ⟨hk, rfl⟩ := List.getElem?_eq_some_iff.1 h
  exact bt_optsB l k hk
theorem spec_allPick (s : Nat) (hs : s < 4) (ts : List Ct) (g cap : Nat) (w : World) (t1 : Ct) (us : List Ct) (hf1 : t1.WF ∧ t1.len ≤ 200) (hnx : t1.next s = .pick) (hne : t1.opts s ≠ []) (hlen : us.length ≤ 1000) (F : Nat → Sm) (hB : (sumO (t1.opts s) F).plays ≤ 1099511627776)
    (HR : ∀ W, Below w.heap.size w W → Calls Try.prog 95 #[.agg #[.slice (some ⟨g, 0, none⟩) ts.length cap, .int .i64 s], .int .i64 200] W fun e w' => Below W.heap.size W w' ∧ ∃ g2 cap2 m2, e = .returned (.tuple #[.agg #[.slice (some ⟨g2, 0, none⟩) (us.length + 1) cap2, .int .i64 s], .string ⟨#[99, 104, 111, 105, 99, 101]⟩, .int .i64 m2]) ∧ Todo w' g2 (t1 :: us) ∧ us.length + 1 ≤ cap2)
    (REC : ∀ k ∈ t1.opts s, ∀ g cap W, Todo W g ((t1.chose s k).2 ++ us) → ((t1.chose s k).2 ++ us).length ≤ cap → Calls Try.prog 85 #[.agg #[.slice (some ⟨g, 0, none⟩) ((t1.chose s k).2 ++ us).length cap, .int .i64 ((t1.chose s k).1 : Nat)]] W (SumEnd (F k) W)) :
    Calls Try.prog 85 #[.agg #[.slice (some ⟨g, 0, none⟩) ts.length cap, .int .i64 s]] w (SumEnd (sumO (t1.opts s) F) w) := by
  obtain ⟨fs, hu⟩ := at_u
  obtain ⟨fs2, hu2⟩ := sm_u
  have hb0 := below_new (below_new (Below.refl w.heap.size w) (Obj.cells #[.slice (some ⟨g, 0, none⟩) ts.length cap, .int .i64 s] 69)) (Obj.cells #[.int .i64 0, .int .i64 0, .bool false, .bool false] 100)
  have BA := (Blk.new w 69 #[.slice (some ⟨g, 0, none⟩) ts.length cap, .int .i64 s]).old (Obj.cells #[.int .i64 0, .int .i64 0, .bool false, .bool false] 100)
  have BZ := Blk.newAt (w.alloc (Obj.cells #[.slice (some ⟨g, 0, none⟩) ts.length cap, .int .i64 s] 69)) 100 #[.int .i64 0, .int .i64 0, .bool false, .bool false] (w.heap.size + 1) (by simp)
  have HR2 := HR _ hb0
  have HREC := Lib.hid REC
  have HNX := Lib.hid hnx
  clear HR REC hnx
  go_enter Try.func85, Try.ntmps85
  go_wp2_with (refine wp_load_Blk rfl _ _ rfl w.heap.size rfl BA hu rfl at_i ?_)
  refine HR2.mono ?_
  rintro e w1 ⟨hb1, g2, cap2, m2, rfl, hT2, hc2⟩
  have BA1 := BA.grown hb1
  have BZ1 := BZ.grown hb1
  have hb := below_step hb0 hb1
  have hl := BZ1.lt
  have H0 : SumAt w ((w1.setRow w.heap.size #[.slice (some ⟨g2, 0, none⟩) (us.length + 1) cap2, .int .i64 s]).alloc (Obj.cells #[.int .i64 0, .int .i64 0, .bool false, .bool false] 100)) w1.heap.size t1 us s g2 cap2 Sm.zero :=
    ⟨(BA1.setRow _).old _, (BZ1.setRowOther _ _ (by omega)).old _, Blk.newAt (w1.setRow w.heap.size #[.slice (some ⟨g2, 0, none⟩) (us.length + 1) cap2, .int .i64 s]) _ _ w1.heap.size (by simp), (hT2.setRow BA1 _).grown (below_new (Below.refl _ _) _), below_new (below_setRow hb (Nat.le_refl _) _) _⟩
  clear HR2 BA BZ hb hb0 hT2 BZ1
  have BA3 := H0.a
  go_wp2_with (first
    | (refine wp_store_Blk rfl _ _ _ rfl w.heap.size rfl rfl BA1 at_i rfl (by simp [Value.oneCell']) ?_)
    | (refine wp_load_Blk rfl _ _ rfl w.heap.size rfl BA3 hu rfl at_i ?_))
  refine (spec_l6Options t1 hf1.1 us s hs HNX.out g2 cap2 _ H0.t (by omega)).mono ?_
  rintro e w3 ⟨rfl, hb3⟩
  have H1 := H0.grown hb3
  have hsz := optsB_size (t1.opts s)
  have hol := opts_le t1 s
  have hO : w.heap.size + 1 < w1.heap.size := hl
  have hOl := H1.o.lt
  have HOL : Hid (∀ (k : Nat) x, (t1.opts s)[k]? = some x → bt (optsB (t1.opts s)) k = decB x) := fun k x h => optsB_at _ k x h
  clear H0 BA1 BA3 hb1 hb3 hl
  generalize hTX : optsB (t1.opts s) = TX at *
  clear hTX
  have HSZ := Lib.hid hsz
  have hTX4 : TX.size ≤ 4 := by omega
  clear hsz
  generalize w1.heap.size = O at *
  clear w1
  go_wp2_with fail
  go_loopw [8] (fun i wr => ∃ k : Nat, k ≤ TX.size ∧ i = .int .i64 k ∧ SumAt w wr O t1 us s g2 cap2 (sumO ((t1.opts s).take k) F)) (fun i _ => TX.size - (intOf i).toNat)
  case atStart => exact ⟨0, by omega, rfl, H1⟩
  case round =>
    clear H1 hOl
    obtain ⟨k, hk, rfl, H⟩ := hrel
    have HA := H.a
    have HOO := H.o
    have HZ := H.z
    have hol2 := HOO.lt
    have hgO : g2 ≠ O := fun e => by
      have h1 := H.t.last
      rw [e, cell_of_row _ _ us.length _ _ _ HOO.eq] at h1
      obtain h | h | h | h | h : us.length = 0 ∨ us.length = 1 ∨ us.length = 2 ∨ us.length = 3 ∨ 4 ≤ us.length := by omega
      · rw [h] at h1; simp [Sm.cells] at h1
      · rw [h] at h1; simp [Sm.cells] at h1
      · rw [h] at h1; simp [Sm.cells] at h1
      · rw [h] at h1; simp [Sm.cells] at h1
      · rw [Array.getElem?_eq_none (by rw [Sm.cells_size]; omega)] at h1; cases h1
    by_cases hlt : k < TX.size
    · have hki : (k : Int) < (TX.size : Int) := by omega
      obtain ⟨x, hx⟩ : ∃ x, (t1.opts s)[k]? = some x := ⟨(t1.opts s)[k]'(by have := HSZ.out; omega), by simp⟩
      have hxm := List.mem_of_getElem? hx
      have hx4 := opts_lt hxm
      have HBT := Lib.hid (HOL.out k x hx)
      have HTK := Lib.hid (sumO_take (t1.opts s) F k x hx)
      have hle := sumO_le (t1.opts s) F (k + 1)
      have hle0 := sumO_le (t1.opts s) F k
      rw [HTK.out] at hle
      have HCH := Lib.hid (spec_l6Choose t1 us s hs (bt TX k).toNat x (by rw [HBT.out]; exact decB_toNat hx4) HNX.out hxm g2 cap2)
      have hgl : g2 < wr.heap.size := block_lt_of_cell H.t.last
      have hzl := HZ.lt
      have HREX := Lib.hid (HREC.out x hxm)
      obtain ⟨⟨p1, e1, a1, d1⟩, hacc⟩ : ∃ a, a = sumO ((t1.opts s).take k) F := ⟨_, rfl⟩
      obtain ⟨⟨p2, e2, a2, d2⟩, hFx⟩ : ∃ a, a = F x := ⟨_, rfl⟩
      rw [← hFx] at HREX
      rw [← hacc, ← hFx] at HTK hle
      rw [← hacc] at H hle0
      have hpl : p1 + p2 ≤ 1099511627776 := by simp only [Sm.add] at hle; omega
      clear hle hle0 HREC hacc hFx
      go_wp2_with fail
      refine wp_region_held_drew (S := fun W => SumAt w W O t1 us s g2 cap2 ⟨p1, e1, a1, d1⟩ ∧ Below wr.heap.size wr W) (by kernel_rfl) ?_ (fun hS => ?_)
      · exact ⟨⟨HA.drew, HZ.drew, H.o.drew, H.t.drew, H.b.drew⟩, (Below.refl _ _).drew⟩
      refine wpAnyH_take (i := 0) (v := .agg #[.slice (some ⟨g2, 0, none⟩) (us.length + 1) cap2, .int .i64 s]) rfl (by kernel_rfl) (by kernel_rfl) (by kernel_rfl) (fun _ _ _ h => h) (yields_Blk (by rfl) _ _ rfl w.heap.size rfl (fun _ h => h.1.a) hu rfl at_i) hS ?_
      simp only [Act.put, List.getElem_toArray, List.getElem_cons_succ, List.getElem_cons_zero, List.setIfInBounds_toArray, List.set_cons_zero, List.set_cons_succ]
      refine wpAnyH_take (i := 1) (v := .string TX) rfl (by kernel_rfl) (by kernel_rfl) (by kernel_rfl) (fun _ _ _ h => h) (Or.inl ⟨by rfl, ?_⟩) hS ?_
      · intro w hSw
        go_simp
      simp only [Act.put, List.getElem_toArray, List.getElem_cons_succ, List.getElem_cons_zero, List.setIfInBounds_toArray, List.set_cons_zero, List.set_cons_succ]
      refine wpAnyH_take (i := 2) (v := .int .i64 k) rfl (by kernel_rfl) (by kernel_rfl) (by kernel_rfl) (fun _ _ _ h => h) (Or.inl ⟨by rfl, ?_⟩) hS ?_
      · intro w hSw
        go_simp
      simp only [Act.put, List.getElem_toArray, List.getElem_cons_succ, List.getElem_cons_zero, List.setIfInBounds_toArray, List.set_cons_zero, List.set_cons_succ]
      refine wpAnyH_take (i := 3) (v := .int .u8 ((bt TX k).toNat : Int)) rfl (by kernel_rfl) (by kernel_rfl) (by kernel_rfl) (fun _ _ _ h => h) (Or.inl ⟨by rfl, ?_⟩) hS ?_
      · intro w hSw
        go_simp
      simp only [Act.put, List.getElem_toArray, List.getElem_cons_succ, List.getElem_cons_zero, List.setIfInBounds_toArray, List.set_cons_zero, List.set_cons_succ]
      have hbd : Below wr.heap.size wr wr.drew := (Below.refl _ _).drew
      generalize hwd : wr.drew = W0 at *
      clear hwd
      refine wpAnyH_ready (rs := [4, 6]) (by kernel_rfl) (by simp) ?_
      refine AllReadyH.cons rfl (fun K hK => ?_) (AllReadyH.cons rfl (fun K hK => ?_) AllReadyH.nil)
      · rw [if_pos (by rfl)]
        refine op_call 97 _ _ rfl (enters_of Try.func97 (by kernel_rfl) rfl) _ (HCH.out W0 hf1.1 hf1.2 hS.1.t (by omega) hc2) rfl ?_
        rintro e W41 ⟨hbn, g3, cap3, he3, hT3, hc3⟩
        obtain ⟨kk, hkk⟩ : ∃ kk, ((t1.chose s x).2 ++ us).length = kk := ⟨_, rfl⟩
        rw [hkk] at he3
        subst he3
        have HKK := Lib.hid hkk
        clear hkk
        refine ⟨_, rfl, ?_⟩
        refine hK.out _ _ ⟨hS.1.grown hbn, below_step hS.2 hbn⟩ (fun hS1 => ?_)
        skip
        clear hK K hbn
        replace hS := hS1
        clear hS1
        try simp only [Act.put, List.getElem_toArray, List.getElem_cons_succ, List.getElem_cons_zero, List.setIfInBounds_toArray, List.set_cons_zero, List.set_cons_succ]
        refine wpAnyH_ready (rs := [5, 6]) (by kernel_rfl) (by simp) ?_
        refine AllReadyH.cons rfl (fun K hK => ?_) (AllReadyH.cons rfl (fun K hK => ?_) AllReadyH.nil)
        · rw [if_pos (by rfl)]
          have HRE := HREX.out g3 cap3 W41 hT3 hc3
          rw [HKK.out] at HRE
          refine op_call 85 _ _ rfl (enters_of Try.func85 (by kernel_rfl) rfl) _ HRE rfl ?_
          rintro e W52 ⟨rfl, hbn⟩
          refine ⟨_, rfl, ?_⟩
          refine hK.out _ _ ⟨hS.1.grown hbn, below_step hS.2 hbn⟩ (fun hS1 => ?_)
          skip
          clear hK K hbn HRE
          replace hS := hS1
          clear hS1
          try simp only [Act.put, List.getElem_toArray, List.getElem_cons_succ, List.getElem_cons_zero, List.setIfInBounds_toArray, List.set_cons_zero, List.set_cons_succ]
          refine wpAnyH_ready (rs := [6]) (by kernel_rfl) (by simp) ?_
          refine AllReadyH.cons rfl (fun K hK => ?_) AllReadyH.nil
          rw [if_pos (by rfl)]
          have hBl : wr.heap.size ≤ W52.heap.size := hS.2.size
          have HB := Blk.new W52 100 #[.int .i64 0, .int .i64 0, .bool false, .bool false]
          have hbn := below_new (Below.refl W52.heap.size W52) (Obj.cells #[.int .i64 0, .int .i64 0, .bool false, .bool false] 100)
          unfold Oper.wp
          go_simp
          refine hK.out _ (W52.alloc (Obj.cells #[.int .i64 0, .int .i64 0, .bool false, .bool false] 100)) ⟨hS.1.grown hbn, below_step hS.2 hbn⟩ (fun hS1 => ?_)
          clear hK K hS
          have hS := hS1
          clear hS1
          skip
          clear hbn
          generalize W52.heap.size = B at *
          generalize W52.alloc (Obj.cells #[.int .i64 0, .int .i64 0, .bool false, .bool false] 100) = W63 at *
          try simp only [Act.put, List.getElem_toArray, List.getElem_cons_succ, List.getElem_cons_zero, List.setIfInBounds_toArray, List.set_cons_zero, List.set_cons_succ]
          refine wpAnyH_ready (rs := [7]) (by kernel_rfl) (by simp) ?_
          refine AllReadyH.cons rfl (fun K hK => ?_) AllReadyH.nil
          rw [if_pos (by rfl)]
          refine op_store_Blk _ _ _ rfl B rfl rfl HB sm_i rfl (by simp [Sm.cells, Value.oneCell']) ?_
          have hS6 := hS.1.setB (by omega) hol2 hgl hBl (Sm.mk p2 e2 a2 d2).cells
          refine hK.out _ _ ⟨hS6, below_setRow hS.2 hBl _⟩ (fun _ => ?_)
          clear hK K
          try simp only [Act.put, List.getElem_toArray, List.getElem_cons_succ, List.getElem_cons_zero, List.setIfInBounds_toArray, List.set_cons_zero, List.set_cons_succ]
          refine wpAnyH_done (by kernel_rfl) ?_ _
          have HB2 := HB.setRow (Sm.mk p2 e2 a2 d2).cells
          have hBne : B ≠ O := by omega
          clear hS HB
          generalize W63.setRow B (Sm.mk p2 e2 a2 d2).cells = W9 at *
          have HO6 := hS6.o
          have HO7 : Blk W9 O 100 #[.int .i64 (p1 : Nat), .int .i64 e1, .bool a1, .bool d1] := HO6
          obtain ⟨c0, c1, c2, c3⟩ := HO7.cell4
          obtain ⟨b0, b1, b2, b3⟩ := (show Blk W9 B 100 #[.int .i64 (p2 : Nat), .int .i64 e2, .bool a2, .bool d2] from HB2).cell4
          try simp only at c0 c1 c2 c3
          clear HB2
          have hlO := HO6.lt
          cases a1
          all_goals
            cases d1
            all_goals
              go_wp2_with (refine wp_store_Blk rfl _ _ _ rfl O rfl rfl HO6 sm_i rfl (by simp [Value.oneCell']) ?_)
              try simp only [Act.put]
              go_wp2_with fail
              go_roundw
              case rel =>
                refine ⟨k + 1, by omega, by go_num, hS6.a.setRowOther _ _ (by omega), hS6.z.setRowOther _ _ (by omega), ?_, ⟨fun j z hj => cell_kept (hS6.t.lies j z hj) (setRow_other _ _ _ _ (by have := hgO; omega))⟩, below_setRow hS6.b (by omega) _⟩
                rw [HTK.out]
                exact HO6.setRow _
              case measure => simp [intOf]; omega
        · rw [if_pos (by rfl)]
          have hBl : wr.heap.size ≤ W41.heap.size := hS.2.size
          have HB := Blk.new W41 100 #[.int .i64 0, .int .i64 0, .bool false, .bool false]
          have hbn := below_new (Below.refl W41.heap.size W41) (Obj.cells #[.int .i64 0, .int .i64 0, .bool false, .bool false] 100)
          unfold Oper.wp
          go_simp
          refine hK.out _ (W41.alloc (Obj.cells #[.int .i64 0, .int .i64 0, .bool false, .bool false] 100)) ⟨hS.1.grown hbn, below_step hS.2 hbn⟩ (fun hS1 => ?_)
          clear hK K hS
          have hS := hS1
          clear hS1
          replace hT3 := hT3.grown hbn
          clear hbn
          generalize W41.heap.size = B at *
          generalize W41.alloc (Obj.cells #[.int .i64 0, .int .i64 0, .bool false, .bool false] 100) = W62 at *
          try simp only [Act.put, List.getElem_toArray, List.getElem_cons_succ, List.getElem_cons_zero, List.setIfInBounds_toArray, List.set_cons_zero, List.set_cons_succ]
          refine wpAnyH_ready (rs := [5]) (by kernel_rfl) (by simp) ?_
          refine AllReadyH.cons rfl (fun K hK => ?_) AllReadyH.nil
          rw [if_pos (by rfl)]
          have HRE := HREX.out g3 cap3 W62 hT3 hc3
          rw [HKK.out] at HRE
          refine op_call 85 _ _ rfl (enters_of Try.func85 (by kernel_rfl) rfl) _ HRE rfl ?_
          rintro e W53 ⟨rfl, hbn⟩
          refine ⟨_, rfl, ?_⟩
          refine hK.out _ _ ⟨hS.1.grown hbn, below_step hS.2 hbn⟩ (fun hS1 => ?_)
          replace HB := HB.grown hbn
          clear hK K hbn HRE
          replace hS := hS1
          clear hS1
          try simp only [Act.put, List.getElem_toArray, List.getElem_cons_succ, List.getElem_cons_zero, List.setIfInBounds_toArray, List.set_cons_zero, List.set_cons_succ]
          refine wpAnyH_ready (rs := [7]) (by kernel_rfl) (by simp) ?_
          refine AllReadyH.cons rfl (fun K hK => ?_) AllReadyH.nil
          rw [if_pos (by rfl)]
          refine op_store_Blk _ _ _ rfl B rfl rfl HB sm_i rfl (by simp [Sm.cells, Value.oneCell']) ?_
          have hS6 := hS.1.setB (by omega) hol2 hgl hBl (Sm.mk p2 e2 a2 d2).cells
          refine hK.out _ _ ⟨hS6, below_setRow hS.2 hBl _⟩ (fun _ => ?_)
          clear hK K
          try simp only [Act.put, List.getElem_toArray, List.getElem_cons_succ, List.getElem_cons_zero, List.setIfInBounds_toArray, List.set_cons_zero, List.set_cons_succ]
          refine wpAnyH_done (by kernel_rfl) ?_ _
          have HB2 := HB.setRow (Sm.mk p2 e2 a2 d2).cells
          have hBne : B ≠ O := by omega
          clear hS HB
          generalize W53.setRow B (Sm.mk p2 e2 a2 d2).cells = W9 at *
          have HO6 := hS6.o
          have HO7 : Blk W9 O 100 #[.int .i64 (p1 : Nat), .int .i64 e1, .bool a1, .bool d1] := HO6
          obtain ⟨c0, c1, c2, c3⟩ := HO7.cell4
          obtain ⟨b0, b1, b2, b3⟩ := (show Blk W9 B 100 #[.int .i64 (p2 : Nat), .int .i64 e2, .bool a2, .bool d2] from HB2).cell4
          try simp only at c0 c1 c2 c3
          clear HB2
          have hlO := HO6.lt
          cases a1
          all_goals
            cases d1
            all_goals
              go_wp2_with (refine wp_store_Blk rfl _ _ _ rfl O rfl rfl HO6 sm_i rfl (by simp [Value.oneCell']) ?_)
              try simp only [Act.put]
              go_wp2_with fail
              go_roundw
              case rel =>
                refine ⟨k + 1, by omega, by go_num, hS6.a.setRowOther _ _ (by omega), hS6.z.setRowOther _ _ (by omega), ?_, ⟨fun j z hj => cell_kept (hS6.t.lies j z hj) (setRow_other _ _ _ _ (by have := hgO; omega))⟩, below_setRow hS6.b (by omega) _⟩
                rw [HTK.out]
                exact HO6.setRow _
              case measure => simp [intOf]; omega
      · rw [if_pos (by rfl)]
        have hBl : wr.heap.size ≤ W0.heap.size := hS.2.size
        have HB := Blk.new W0 100 #[.int .i64 0, .int .i64 0, .bool false, .bool false]
        have hbn := below_new (Below.refl W0.heap.size W0) (Obj.cells #[.int .i64 0, .int .i64 0, .bool false, .bool false] 100)
        unfold Oper.wp
        go_simp
        refine hK.out _ (W0.alloc (Obj.cells #[.int .i64 0, .int .i64 0, .bool false, .bool false] 100)) ⟨hS.1.grown hbn, below_step hS.2 hbn⟩ (fun hS1 => ?_)
        clear hK K hS
        have hS := hS1
        clear hS1
        skip
        clear hbn
        generalize W0.heap.size = B at *
        generalize W0.alloc (Obj.cells #[.int .i64 0, .int .i64 0, .bool false, .bool false] 100) = W61 at *
        try simp only [Act.put, List.getElem_toArray, List.getElem_cons_succ, List.getElem_cons_zero, List.setIfInBounds_toArray, List.set_cons_zero, List.set_cons_succ]
        refine wpAnyH_ready (rs := [4]) (by kernel_rfl) (by simp) ?_
        refine AllReadyH.cons rfl (fun K hK => ?_) AllReadyH.nil
        rw [if_pos (by rfl)]
        refine op_call 97 _ _ rfl (enters_of Try.func97 (by kernel_rfl) rfl) _ (HCH.out W61 hf1.1 hf1.2 hS.1.t (by omega) hc2) rfl ?_
        rintro e W42 ⟨hbn, g3, cap3, he3, hT3, hc3⟩
        obtain ⟨kk, hkk⟩ : ∃ kk, ((t1.chose s x).2 ++ us).length = kk := ⟨_, rfl⟩
        rw [hkk] at he3
        subst he3
        have HKK := Lib.hid hkk
        clear hkk
        refine ⟨_, rfl, ?_⟩
        refine hK.out _ _ ⟨hS.1.grown hbn, below_step hS.2 hbn⟩ (fun hS1 => ?_)
        replace HB := HB.grown hbn
        clear hK K hbn
        replace hS := hS1
        clear hS1
        try simp only [Act.put, List.getElem_toArray, List.getElem_cons_succ, List.getElem_cons_zero, List.setIfInBounds_toArray, List.set_cons_zero, List.set_cons_succ]
        refine wpAnyH_ready (rs := [5]) (by kernel_rfl) (by simp) ?_
        refine AllReadyH.cons rfl (fun K hK => ?_) AllReadyH.nil
        rw [if_pos (by rfl)]
        have HRE := HREX.out g3 cap3 W42 hT3 hc3
        rw [HKK.out] at HRE
        refine op_call 85 _ _ rfl (enters_of Try.func85 (by kernel_rfl) rfl) _ HRE rfl ?_
        rintro e W53 ⟨rfl, hbn⟩
        refine ⟨_, rfl, ?_⟩
        refine hK.out _ _ ⟨hS.1.grown hbn, below_step hS.2 hbn⟩ (fun hS1 => ?_)
        replace HB := HB.grown hbn
        clear hK K hbn HRE
        replace hS := hS1
        clear hS1
        try simp only [Act.put, List.getElem_toArray, List.getElem_cons_succ, List.getElem_cons_zero, List.setIfInBounds_toArray, List.set_cons_zero, List.set_cons_succ]
        refine wpAnyH_ready (rs := [7]) (by kernel_rfl) (by simp) ?_
        refine AllReadyH.cons rfl (fun K hK => ?_) AllReadyH.nil
        rw [if_pos (by rfl)]
        refine op_store_Blk _ _ _ rfl B rfl rfl HB sm_i rfl (by simp [Sm.cells, Value.oneCell']) ?_
        have hS6 := hS.1.setB (by omega) hol2 hgl hBl (Sm.mk p2 e2 a2 d2).cells
        refine hK.out _ _ ⟨hS6, below_setRow hS.2 hBl _⟩ (fun _ => ?_)
        clear hK K
        try simp only [Act.put, List.getElem_toArray, List.getElem_cons_succ, List.getElem_cons_zero, List.setIfInBounds_toArray, List.set_cons_zero, List.set_cons_succ]
        refine wpAnyH_done (by kernel_rfl) ?_ _
        have HB2 := HB.setRow (Sm.mk p2 e2 a2 d2).cells
        have hBne : B ≠ O := by omega
        clear hS HB
        generalize W53.setRow B (Sm.mk p2 e2 a2 d2).cells = W9 at *
        have HO6 := hS6.o
        have HO7 : Blk W9 O 100 #[.int .i64 (p1 : Nat), .int .i64 e1, .bool a1, .bool d1] := HO6
        obtain ⟨c0, c1, c2, c3⟩ := HO7.cell4
        obtain ⟨b0, b1, b2, b3⟩ := (show Blk W9 B 100 #[.int .i64 (p2 : Nat), .int .i64 e2, .bool a2, .bool d2] from HB2).cell4
        try simp only at c0 c1 c2 c3
        clear HB2
        have hlO := HO6.lt
        cases a1
        all_goals
          cases d1
          all_goals
            go_wp2_with (refine wp_store_Blk rfl _ _ _ rfl O rfl rfl HO6 sm_i rfl (by simp [Value.oneCell']) ?_)
            try simp only [Act.put]
            go_wp2_with fail
            go_roundw
            case rel =>
              refine ⟨k + 1, by omega, by go_num, hS6.a.setRowOther _ _ (by omega), hS6.z.setRowOther _ _ (by omega), ?_, ⟨fun j z hj => cell_kept (hS6.t.lies j z hj) (setRow_other _ _ _ _ (by have := hgO; omega))⟩, below_setRow hS6.b (by omega) _⟩
              rw [HTK.out]
              exact HO6.setRow _
            case measure => simp [intOf]; omega
    · have hke : k = TX.size := by omega
      have e1 : sumO ((t1.opts s).take k) F = sumO (t1.opts s) F := by rw [hke, HSZ.out, List.take_length]
      rw [e1] at HOO
      clear hke e1
      go_wp2_with (first
        | (refine wp_store_Blk rfl _ _ _ rfl (w.heap.size + 1) rfl rfl HZ sm_i rfl (by simp [Sm.cells, Value.oneCell']) ?_)
        | (refine wp_load_Blk rfl _ _ rfl O rfl HOO hu2 rfl sm_i ?_))
      exact ret_Blk rfl (w.heap.size + 1) rfl (HZ.setRow _) hu2 rfl sm_i rfl ⟨rfl, below_setRow H.b (by omega) _⟩
theorem spec_l6All (f : Nat) : ∀ (s : Nat) (hs : s < 4) (ts : List Ct) (hf : FitC ts) (hl : Flat ts) (h1 : tot ts < f) (h2 : tot ts ≤ 20) (g cap : Nat) (hcap : ts.length ≤ cap) (w : World) (hT : Todo w g ts),
    Calls Try.prog 85 #[.agg #[.slice (some ⟨g, 0, none⟩) ts.length cap, .int .i64 s]] w (SumEnd (allA f s ts) w) := by
  induction f with
  | zero => intro s hs ts hf hl h1; omega
  | succ f ih =>
    intro s hs ts hf hl h1 h2 g cap hcap w hT
    have hlen := len_tot ts
    have hfl := run_flat (s := s) (n := 200) hf hl (by omega)
    have hfr := fit_run0 (n := 200) (s := s) hf
    have hfr2 := fit_run (n := 200) (s := s) hf (by omega)
    have HR := fun (W : World) (hb : Below w.heap.size w W) => spec_l6Run 200 s hs ts hf (by omega) g cap hcap W (hT.grown hb)
    have hbd := all_bound (f + 1) s ts hf hl (by omega)
    obtain ⟨⟨m, us, e⟩, hR⟩ : ∃ r, r = run 200 s ts := ⟨_, rfl⟩
    rw [← hR] at hfl hfr hfr2 HR
    by_cases hp : e = .pick
    · subst hp
      obtain ⟨t1, u, rfl, hnx, hne, hm1, _⟩ := run_pick hR.symm
      have hal : allA (f + 1) s ts = _ := all_pick (f := f) (by rw [← hR])
      have hlt := hfl.1 t1 (by simp)
      have htt := hfl.2.1
      simp only [tot] at htt
      have hm := run_le0 200 s ts
      rw [← hR] at hm
      simp only at hm
      rw [hal]
      rw [hal] at hbd
      have h4 : (4 : Nat) ^ tot ts ≤ 4 ^ 20 := Nat.pow_le_pow_right (by omega) h2
      have h40 : (4 : Nat) ^ tot ts ≤ 1099511627776 := Nat.le_trans h4 (by decide)
      refine spec_allPick s hs ts g cap w t1 u (hfr t1 (by simp)) hnx hne (by have := hfr2.2; simp only [List.length_cons] at this; omega) _ (Nat.le_trans hbd h40) (fun W hb => (HR W hb).mono fun e w' h => ?_) (fun k hk g3 cap3 W hT3 hc3 => ?_)
      · obtain ⟨h5, g2, cap2, h6, h7, h8⟩ := h
        exact ⟨h5, g2, cap2, _, h6, h7, h8⟩
      · have hc := chose_flat (hfr t1 (by simp)).1 hlt s k
        have hq : tot ((t1.chose s k).2 ++ u) + 1 ≤ tot ts := by rw [tot_app]; omega
        exact ih _ (chose_lt hs hk) _ (fit_chose hfr s k).1 (hc.1.app hfl.1.tail) (by omega) (by omega) g3 cap3 hc3 W hT3
    · rw [all_leaf (by rw [← hR]) hp]
      refine spec_allLeaf e hp s hs ts g cap w (fun W hb => (HR W hb).mono fun e w' h => ?_)
      obtain ⟨h5, g2, cap2, h6, h7, h8⟩ := h
      exact ⟨h5, g2, cap2, _, _, h6⟩
end Go.Proofs.Ytaeibhpkcikaaaa
