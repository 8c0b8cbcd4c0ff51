/- Plays: the reference's moves. -/
import Derived.Test.YtaeibhpkcikaaaaGreatDoorSp5d
import Derived.Test.YtaeibhpkcikaaaaGreatDoorGF
import Derived.Test.YtaeibhpkcikaaaaGreatDoorGK
/- SpP -/
namespace Go.Proofs.YtaeibhpkcikaaaaGreatDoor
set_option linter.unusedVariables false
set_option linter.unusedSimpArgs false
open Go.RowKit Go.Shelf
set_option maxRecDepth 100000
set_option maxHeartbeats 1000000

theorem at_u : ∃ fs, Tryz.prog.underlying 38 = some (.struct fs) := ⟨_, Tryz.underlying38⟩
theorem at_i : (Tryz.prog.info? 38).map (·.size) = some 2 := by kernel_rfl
/-- the texts of statements to be executed, the next one last -/
structure Todo (w : World) (g : Nat) (ts : List Ct) : Prop where
  lies : TextsAt w g ts.reverse
theorem Todo.grown {w w' : World} {g : Nat} {ts : List Ct} (h : Todo w g ts) (hb : Below w.heap.size w w') : Todo w' g ts := ⟨h.lies.grown hb⟩
theorem Todo.drew {w : World} {g : Nat} {ts : List Ct} (h : Todo w g ts) : Todo w.drew g ts := ⟨fun j x hj => h.lies j x hj⟩
theorem Todo.last {w : World} {g : Nat} {t : Ct} {ts : List Ct} (h : Todo w g (t :: ts)) : w.cell? ⟨g, ts.length, none⟩ = some (.string t.text) := h.lies ts.length t (by simp)
theorem Todo.rest {w : World} {g : Nat} {t : Ct} {ts : List Ct} (h : Todo w g (t :: ts)) : Todo w g ts := ⟨fun j x hj => h.lies j x (by
  rw [List.reverse_cons, List.getElem?_append_left]
  · exact hj
  · exact (List.getElem?_eq_some_iff.1 hj).1)⟩
def whoN (angel : Bool) : ByteArray := if angel then ⟨#[97, 110, 103, 101, 108]⟩ else ⟨#[100, 101, 109, 111, 110]⟩
def findW : ByteArray := ⟨#[65, 124, 43]⟩
theorem findW_all : ∀ n : _root_.Fin 256, decide (firstIdx findW (UInt8.ofNat n.val) ≥ 0) = (UInt8.ofNat n.val == 124 || UInt8.ofNat n.val == 65 || UInt8.ofNat n.val == 43) := by decide +kernel
theorem findW_who (t : Ct) : decide (firstIdx findW t.op ≥ 0) = t.who := by
  have := findW_all ⟨t.op.toNat, t.op.toNat_lt⟩
  simpa [Ct.who] using this
theorem spec_l6Who (t : Ct) (ts : List Ct) (s : Int) (g cap : Nat) (w : World) (hT : Todo w g (t :: ts)) (hn : ts.length ≤ 1000000) :
    Calls Tryz.prog 17 #[.agg #[.slice (some ⟨g, 0, none⟩) (ts.length + 1) cap, .int .i64 s]] w fun e w' => e = .returned (.string (whoN t.who)) ∧ Below w.heap.size w w' := by
  have hl := hT.last
  have hop := op_text t
  have hsz : 0 < t.text.size := by rw [t.text_size]; exact t.len_pos
  have HW := Lib.hid (findW_who t)
  generalize ts.length = n at *
  have hl' : ∀ o, (w.alloc o).cell? ⟨g, n, none⟩ = some (.string t.text) := fun o => cell_grown hl (below_new (Below.refl _ _) _)
  go_enter Tryz.func17, Tryz.ntmps17
  go_wp2_with fail
  refine (spec_l14Find findW _ _ (by decide)).mono ?_
  rintro e w' ⟨rfl, rfl⟩
  cases hb : t.who
  · have hw2 : ¬ 0 ≤ firstIdx findW t.op := by
      have := HW.out; rw [hb] at this; simpa using this
    have HB := Lib.hid hb
    go_wp2_with fail
    go_ret
    rw [HB.out]
    exact ⟨rfl, below_new (Below.refl _ _) _⟩
  · have hw2 : 0 ≤ firstIdx findW t.op := by
      have := HW.out; rw [hb] at this; simpa using this
    have HB := Lib.hid hb
    go_wp2_with fail
    go_ret
    rw [HB.out]
    exact ⟨rfl, below_new (Below.refl _ _) _⟩
theorem spec_l6Push (ts ls : List Ct) (s : Int) (g cap g' cap' : Nat) (w : World) (hT : Todo w g ts) (hL : TextsAt w g' ls.reverse) (hn : ts.length ≤ 1000000) (hl : ls.length ≤ 1000000) (hgl : 0 < ls.length → g' < w.heap.size) :
    Calls Tryz.prog 53 #[.agg #[.slice (some ⟨g, 0, none⟩) ts.length cap, .int .i64 s], .slice (some ⟨g', 0, none⟩) ls.length cap'] w fun e w' =>
      ∃ g2 cap2, e = .returned (.agg #[.slice (some ⟨g2, 0, none⟩) (ls ++ ts).length cap2, .int .i64 s]) ∧ Todo w' g2 (ls ++ ts) ∧ (ls ++ ts).length ≤ cap2 ∧ w.heap.size ≤ g2 ∧ Below w.heap.size w w' := by
  obtain ⟨i0, hi, hz0, hz1, hz2⟩ := info_parts string_info3
  obtain ⟨fs, hu⟩ := at_u
  have hb0 := below_new (below_new (Below.refl w.heap.size w) (Obj.cells #[.slice (some ⟨g, 0, none⟩) ts.length cap, .int .i64 s] 38)) (Obj.cells #[.slice none 0 0, .int .i64 0] 38)
  have B2 := (Blk.new w 38 #[.slice (some ⟨g, 0, none⟩) ts.length cap, .int .i64 s]).old (Obj.cells #[.slice none 0 0, .int .i64 0] 38)
  have B4 := Blk.newAt (w.alloc (Obj.cells #[.slice (some ⟨g, 0, none⟩) ts.length cap, .int .i64 s] 38)) 38 #[.slice none 0 0, .int .i64 0] (w.heap.size + 1) (by simp)
  have hsA : ((w.alloc (Obj.cells #[.slice (some ⟨g, 0, none⟩) ts.length cap, .int .i64 s] 38)).alloc (Obj.cells #[.slice none 0 0, .int .i64 0] 38)).heap.size = w.heap.size + 1 + 1 := by simp
  have hw0 : (((w.alloc (Obj.cells #[.slice (some ⟨g, 0, none⟩) ts.length cap, .int .i64 s] 38)).alloc (Obj.cells #[.slice none 0 0, .int .i64 0] 38)).alloc (Obj.cells #[] 9)).ownsRow (w.heap.size + 1 + 1) 9 1 (.slice (some ⟨w.heap.size + 1 + 1, 0, none⟩) 0 0) 0 [] := by
    rw [← hsA]; exact World.ownsRow_made _ #[] _ (Nat.le_refl _) (by decide) rfl
  go_enter Tryz.func53, Tryz.ntmps53
  go_wp2_with (first
    | (at_builtin; refine wpList_append_own _ rfl _ _ _ rfl (w.heap.size + 1 + 1) 9 i0 (.string ⟨#[]⟩) 1 16 (by kernel_rfl) hi hz0 hz1 hz2 rfl (by decide) _ _ _ rfl hw0 ⟨g, 0, none⟩ ts.length cap (strs ts.reverse) rfl ?c0 ?c1 ?c2 ?c3 ?c4 ?c5 ?_)
    | go_in)
  case c0 => simp [strs]
  case c1 =>
    intro j y hj
    obtain ⟨x, hx, rfl⟩ : ∃ x, ts.reverse[j]? = some x ∧ y = .string x.text := by
      simp only [strs, List.getElem?_map, Option.map_eq_some_iff] at hj
      obtain ⟨x, h1, h2⟩ := hj
      exact ⟨x, h1, h2.symm⟩
    have h3 := cell_grown (hT.lies j x hx) (below_new hb0 (Obj.cells #[] 9))
    have h2 : (⟨g, 0, none⟩ : Addr).add j = ⟨g, j, none⟩ := by unfold Addr.add; split <;> simp_all
    rw [h2]; exact h3
  case c2 =>
    intro y hy
    simp only [strs, List.mem_map] at hy
    obtain ⟨x, _, rfl⟩ := hy
    rfl
  case c3 => unfold maxLen; omega
  case c4 => omega
  case c5 => simp
  intro v1 w1 hown1 hgrow1 hnil1
  have hb1 : Below (w.heap.size + 1 + 1) ((w.alloc (Obj.cells #[.slice (some ⟨g, 0, none⟩) ts.length cap, .int .i64 s] 38)).alloc (Obj.cells #[.slice none 0 0, .int .i64 0] 38)) w1 := by
    have h := below_new (Below.refl _ ((w.alloc (Obj.cells #[.slice (some ⟨g, 0, none⟩) ts.length cap, .int .i64 s] 38)).alloc (Obj.cells #[.slice none 0 0, .int .i64 0] 38))) (Obj.cells #[] 9)
    rw [hsA] at h
    exact h.grown hgrow1 (by simp) (fun k hk => (hw0.lt k hk).1)
  have hsz1 := hb1.size
  rw [hsA] at hsz1
  have B21 := B2.below hb1 (by omega)
  have B41 := B4.below hb1 (by omega)
  have hbw1 := hb0.trans (hb1.mono (by omega))
  have hL1 := hL.grown hbw1
  go_wp2_with fail
  have hown1' : w1.drew.ownsRow (w.heap.size + 1 + 1) 9 1 v1 ts.length (strs ts.reverse) := hown1
  have hL1' : TextsAt w1.drew g' ls.reverse := hL1
  refine wp_region_held_drew (S := fun W => Blk W w.heap.size 38 #[.slice (some ⟨g, 0, none⟩) ts.length cap, .int .i64 s] ∧ ∃ x y, Blk W (w.heap.size + 1) 38 #[x, y]) (by kernel_rfl) ?_ (fun hS => ?_)
  · exact ⟨B21.drew, _, _, B41.drew⟩
  refine wpAnyH_take (i := 0) (v := v1) rfl (by kernel_rfl) (by kernel_rfl) (by kernel_rfl) (fun _ _ _ h => h) (Or.inl ⟨by rfl, ?_⟩) hS ?_
  · intro w hSw
    go_simp
  simp only [Act.put, List.getElem_toArray, List.getElem_cons_succ, List.getElem_cons_zero, List.setIfInBounds_toArray, List.set_cons_zero, List.set_cons_succ]
  refine wpAnyH_take (i := 1) (v := .slice (some ⟨g', 0, none⟩) ls.length cap') rfl (by kernel_rfl) (by kernel_rfl) (by kernel_rfl) (fun _ _ _ h => h) (Or.inl ⟨by rfl, ?_⟩) hS ?_
  · intro w hSw
    go_simp
  simp only [Act.put, List.getElem_toArray, List.getElem_cons_succ, List.getElem_cons_zero, List.setIfInBounds_toArray, List.set_cons_zero, List.set_cons_succ]
  refine wpAnyH_take (i := 3) (v := .pointer (some ⟨w.heap.size, 1, none⟩)) rfl (by kernel_rfl) (by kernel_rfl) (by kernel_rfl) (fun _ _ _ h => h) (Or.inl ⟨by rfl, ?_⟩) hS ?_
  · intro w hSw
    go_simp
  simp only [Act.put, List.getElem_toArray, List.getElem_cons_succ, List.getElem_cons_zero, List.setIfInBounds_toArray, List.set_cons_zero, List.set_cons_succ]
  refine wpAnyH_take (i := 4) (v := .int .i64 s) rfl (by kernel_rfl) (by kernel_rfl) (by kernel_rfl) (fun _ _ _ h => h) (Or.inl ⟨by rfl, ?_⟩) hS ?_
  · rintro w hSw
    have h7 := hSw.1.cell2.2
    clear hSw
    go_simp
  simp only [Act.put, List.getElem_toArray, List.getElem_cons_succ, List.getElem_cons_zero, List.setIfInBounds_toArray, List.set_cons_zero, List.set_cons_succ]
  refine wpAnyH_ready (rs := [2]) (by kernel_rfl) (by simp) ?_
  refine AllReadyH.cons rfl (fun K hK => ?_) AllReadyH.nil
  rw [if_pos (by rfl)]
  refine op_append_own _ _ _ rfl (w.heap.size + 1 + 1) 9 i0 (.string ⟨#[]⟩) 1 16 (by kernel_rfl) hi hz0 hz1 hz2 rfl (by decide) v1 ts.length _ rfl hown1' ⟨g', 0, none⟩ ls.length cap' (strs ls.reverse) rfl ?d0 ?d1 ?d2 ?d3 ?d4 ?d5 ?_
  case d0 => simp [strs]
  case d1 =>
    intro j y hj
    obtain ⟨x, hx, rfl⟩ : ∃ x, ls.reverse[j]? = some x ∧ y = .string x.text := by
      simp only [strs, List.getElem?_map, Option.map_eq_some_iff] at hj
      obtain ⟨x, h1, h2⟩ := hj
      exact ⟨x, h1, h2.symm⟩
    have h2 : (⟨g', 0, none⟩ : Addr).add j = ⟨g', j, none⟩ := by unfold Addr.add; split <;> simp_all
    rw [h2]; exact hL1' j x hx
  case d2 =>
    intro y hy
    simp only [strs, List.mem_map] at hy
    obtain ⟨x, _, rfl⟩ := hy
    rfl
  case d3 => unfold maxLen; omega
  case d4 => omega
  case d5 => exact hsz1
  intro v2 w2 hown2 hgrow2 hnil2 _
  have hne2 : v2 ≠ .slice none 0 0 := fun h => hnil1 (hnil2.1 h).1
  have e2 : strs ts.reverse ++ strs ls.reverse = strs (ls ++ ts).reverse := by simp [strs]
  have e3 : ts.length + ls.length = (ls ++ ts).reverse.length := by simp
  rw [e2, e3] at hown2
  obtain ⟨g2, cap2, rfl, hg2⟩ := owned_texts hown2 hne2
  have hcap2 : (ls ++ ts).length ≤ cap2 := by
    rcases hown2.2 with ⟨h, _⟩ | ⟨g', c', cur, h, _, _, hle, _⟩
    · cases h
    · cases h; rw [List.length_reverse] at hle; exact hle
  have e4 : (ls ++ ts).reverse.length = (ls ++ ts).length := List.length_reverse
  rw [e4]
  have hb2 : Below (w.heap.size + 1 + 1) w1.drew w2 := (Below.refl _ _).grown hgrow2 hsz1 (fun k hk => (hown1'.lt k hk).1)
  have hlt2 := (hown2.lt g2 rfl).1
  refine hK.out _ _ ?_ (fun hS1 => ?_)
  · exact ⟨hS.1.below hb2 (by omega), _, _, B41.drew.below hb2 (by omega)⟩
  clear hK K
  replace hS := hS1
  clear hS1
  simp only [Act.put, List.getElem_toArray, List.getElem_cons_succ, List.getElem_cons_zero, List.setIfInBounds_toArray, List.set_cons_zero, List.set_cons_succ]
  refine wpAnyH_take (i := 5) (v := .agg #[.slice (some ⟨g2, 0, none⟩) (ls ++ ts).length cap2, .int .i64 s]) rfl (by kernel_rfl) (by kernel_rfl) (by kernel_rfl) (fun _ _ _ h => h) (Or.inl ⟨by rfl, ?_⟩) hS ?_
  · intro w hSw
    go_simp
  simp only [Act.put, List.getElem_toArray, List.getElem_cons_succ, List.getElem_cons_zero, List.setIfInBounds_toArray, List.set_cons_zero, List.set_cons_succ]
  refine wpAnyH_ready (rs := [6]) (by kernel_rfl) (by simp) ?_
  refine AllReadyH.cons rfl (fun K hK => ?_) AllReadyH.nil
  rw [if_pos (by rfl)]
  have B42 := B41.drew.below hb2 (by omega : w.heap.size + 1 < w.heap.size + 1 + 1)
  refine op_store_Blk _ _ _ rfl (w.heap.size + 1) rfl rfl B42 at_i rfl (by simp [Value.oneCell']) ?_
  refine hK.out _ _ ?_ (fun hS1 => ?_)
  · exact ⟨hS.1.setRowOther _ _ (by omega), _, _, B42.setRow _⟩
  clear hK K
  replace hS := hS1
  clear hS1
  simp only [Act.put, List.getElem_toArray, List.getElem_cons_succ, List.getElem_cons_zero, List.setIfInBounds_toArray, List.set_cons_zero, List.set_cons_succ]
  refine wpAnyH_done (by kernel_rfl) ?_ _
  go_wp2_with fail
  refine ret_Blk rfl (w.heap.size + 1) rfl (B42.setRow _) hu rfl at_i rfl ⟨g2, cap2, rfl, ⟨fun j x hj => ?_⟩, hcap2, by have := hlt2; omega, ?_⟩
  · exact cell_kept (hg2 j x hj) (setRow_other _ _ _ _ (by omega))
  · exact below_setRow (hbw1.trans ((Below.refl _ _).drew.trans (hb2.mono (by omega)))) (by omega) _
end Go.Proofs.YtaeibhpkcikaaaaGreatDoor

/- SpP2 -/
namespace Go.Proofs.YtaeibhpkcikaaaaGreatDoor
set_option linter.unusedVariables false
set_option linter.unusedSimpArgs false
open Go.RowKit Go.Shelf
set_option maxRecDepth 100000
set_option maxHeartbeats 1000000

def decB (k : Nat) : UInt8 := UInt8.ofNat (48 + k)
theorem conv_byte (n : Int) (b : UInt8) (hb : (b.toNat : Int) = n) (W : World) : (convert 25 9 (.slice (some ⟨W.heap.size, 0, none⟩) 1 1)).run Tryz.prog (W.alloc (Obj.cells #[.int .u8 n] 5)) = .ok (.string ⟨#[b]⟩) (W.alloc (Obj.cells #[.int .u8 n] 5)) :=
  run_convert_bytes_back (P := Tryz.prog) _ 25 9 5 ⟨W.heap.size, 0, none⟩ 1 [b] Tryz.underlying25 Tryz.underlying5 Tryz.underlying9 (fun j hj => by
    obtain rfl : j = 0 := by simp at hj; exact hj
    simp [Addr.add, hb])
theorem spec_l14Dec (k : Nat) (hk : k < 4) (w : World) : Calls Tryz.prog 49 #[.int .i64 k] w fun e w' => e = .returned (.string ⟨#[decB k]⟩) ∧ Below w.heap.size w w' := by
  have hc0 := conv_byte 48 48 rfl
  have hc1 := conv_byte 49 49 rfl
  have hc2 := conv_byte 50 50 rfl
  have hc3 := conv_byte 51 51 rfl
  obtain rfl | rfl | rfl | rfl : k = 0 ∨ k = 1 ∨ k = 2 ∨ k = 3 := by omega
  · rw [show ((0 : Nat) : Int) = 0 from rfl]
    go_enter Tryz.func49, Tryz.ntmps49
    go_wp2_with fail
    go_loop [0, 3] (fun a o => a = .int .i64 0 ∧ o = .string ⟨#[]⟩) (fun _ _ => 0)
    case atStart => exact ⟨rfl, rfl⟩
    case round =>
      obtain ⟨rfl, rfl⟩ := hrel
      go_wp2_with fail
      go_ret
      exact ⟨rfl, below_new (Below.refl _ _) _⟩
  · rw [show ((1 : Nat) : Int) = 1 from rfl]
    go_enter Tryz.func49, Tryz.ntmps49
    go_wp2_with fail
    go_loop [0, 3] (fun a o => a = .int .i64 1 ∧ o = .string ⟨#[]⟩) (fun _ _ => 0)
    case atStart => exact ⟨rfl, rfl⟩
    case round =>
      obtain ⟨rfl, rfl⟩ := hrel
      go_wp2_with fail
      go_ret
      exact ⟨rfl, below_new (Below.refl _ _) _⟩
  · rw [show ((2 : Nat) : Int) = 2 from rfl]
    go_enter Tryz.func49, Tryz.ntmps49
    go_wp2_with fail
    go_loop [0, 3] (fun a o => a = .int .i64 2 ∧ o = .string ⟨#[]⟩) (fun _ _ => 0)
    case atStart => exact ⟨rfl, rfl⟩
    case round =>
      obtain ⟨rfl, rfl⟩ := hrel
      go_wp2_with fail
      go_ret
      exact ⟨rfl, below_new (Below.refl _ _) _⟩
  · rw [show ((3 : Nat) : Int) = 3 from rfl]
    go_enter Tryz.func49, Tryz.ntmps49
    go_wp2_with fail
    go_loop [0, 3] (fun a o => a = .int .i64 3 ∧ o = .string ⟨#[]⟩) (fun _ _ => 0)
    case atStart => exact ⟨rfl, rfl⟩
    case round =>
      obtain ⟨rfl, rfl⟩ := hrel
      go_wp2_with fail
      go_ret
      exact ⟨rfl, below_new (Below.refl _ _) _⟩

/-- the choices at a statement, as digits -/
def optsB (l : List Nat) : ByteArray := ⟨(l.map decB).toArray⟩
theorem optsB_succ (f : Nat → Bool) (k : Nat) : optsB ((List.range (k + 1)).filter f) = if f k then optsB ((List.range k).filter f) ++ ⟨#[decB k]⟩ else optsB ((List.range k).filter f) := by
  rw [List.range_succ, List.filter_append]
  cases h : f k
  · simp [h, List.filter]
  · rw [if_pos rfl]
    apply ByteArray.ext; apply Array.ext'
    simp [optsB, h, List.filter, ByteArray.data_append]
theorem optsB_size (l : List Nat) : (optsB l).size = l.length := by simp [optsB, ByteArray.size]
theorem filt_le (f : Nat → Bool) (k : Nat) : ((List.range k).filter f).length ≤ k := by
  have := List.length_filter_le f (List.range k)
  simpa using this
theorem spec_opts01 (t : Ct) (h65 : t.op ≠ 65) (h68 : t.op ≠ 68) (ts : List Ct) (s : Nat) (g cap : Nat) (w : World) (hT : Todo w g (t :: ts)) (hn : ts.length ≤ 1000000) :
    Calls Tryz.prog 16 #[.agg #[.slice (some ⟨g, 0, none⟩) (ts.length + 1) cap, .int .i64 s]] w fun e w' => e = .returned (.string (optsB [0, 1])) ∧ Below w.heap.size w w' := by
  have hl := hT.last
  have hop := op_text t
  have hsz : 0 < t.text.size := by rw [t.text_size]; exact t.len_pos
  have e1 := u8_ne (n := 65) h65 rfl
  have e2 := u8_ne (n := 68) h68 rfl
  have e3 : ((t.op.toNat : Int) != 65) = true := by simp [bne, e1]
  have e4 : ((t.op.toNat : Int) != 68) = true := by simp [bne, e2]
  clear h65 h68
  generalize ts.length = n at *
  have hl' : ∀ o, (w.alloc o).cell? ⟨g, n, none⟩ = some (.string t.text) := fun o => cell_grown hl (below_new (Below.refl _ _) _)
  go_enter Tryz.func16, Tryz.ntmps16
  go_wp2_with fail
  go_ret
  exact ⟨rfl, below_new (Below.refl _ _) _⟩
theorem spec_opts65 (d : List Int) (ht : (Ct.n0 65 d).WF) (hnd : d.length = 4) (ts : List Ct) (s : Nat) (hs : s < 4) (g cap : Nat) (w : World) (hT : Todo w g (Ct.n0 65 d :: ts)) (hn : ts.length ≤ 1000000) :
    Calls Tryz.prog 16 #[.agg #[.slice (some ⟨g, 0, none⟩) (ts.length + 1) cap, .int .i64 s]] w fun e w' => e = .returned (.string (optsB ((Ct.n0 65 d).opts s))) ∧ Below w.heap.size w w' := by
  have hl := hT.last
  have hop := op_text (Ct.n0 65 d)
  have hb0 : ((bt (Ct.n0 65 d).text 0).toNat : Int) = 65 := by rw [hop]; rfl
  have hs5 : (Ct.n0 65 d).text.size = 5 := by rw [Ct.text_size, Ct.len0, hnd]
  have hre := rel_ext ht hnd
  have HE := Lib.hid hre.1
  have HV := Lib.hid (hre.2 s hs)
  have HO : Hid ((Ct.n0 65 d).opts s = (List.range 4).filter fun u => has (dsF d s) u) := rfl
  generalize (Ct.n0 65 d).text = T at *
  clear hre hop
  generalize ts.length = n at *
  have hl' : ∀ o, (w.alloc o).cell? ⟨g, n, none⟩ = some (.string T) := fun o => cell_grown hl (below_new (Below.refl _ _) _)
  have BN := Blk.new w 38 #[.slice (some ⟨g, 0, none⟩) (n + 1) cap, .int .i64 s]
  have hB0 := below_new (Below.refl w.heap.size w) (Obj.cells #[.slice (some ⟨g, 0, none⟩) (n + 1) cap, .int .i64 s] 38)
  go_enter Tryz.func16, Tryz.ntmps16
  go_wp2_with fail
  go_loopw [4, 5] (fun o i wr => ∃ k : Nat, k ≤ 4 ∧ i = .int .i64 k ∧ o = .string (optsB ((List.range k).filter fun u => has (dsF d s) u)) ∧ Blk wr w.heap.size 38 #[.slice (some ⟨g, 0, none⟩) (n + 1) cap, .int .i64 s] ∧ Below w.heap.size w wr) (fun _ i _ => 4 - (intOf i).toNat)
  case atStart => exact ⟨0, by omega, rfl, rfl, BN, hB0⟩
  case round =>
    obtain ⟨k, hk, rfl, rfl, hB, hbw⟩ := hrel
    clear hl hl' BN hB0
    by_cases hlt : k < 4
    · have HX := Lib.hid (optsB_succ (fun u => has (dsF d s) u) k)
      have hfl := filt_le (fun u => has (dsF d s) u) k
      have hfs := optsB_size ((List.range k).filter fun u => has (dsF d s) u)
      generalize optsB ((List.range k).filter fun u => has (dsF d s) u) = A at *
      have hA4 : A.size ≤ 4 := by omega
      clear hfl hfs
      cases hb : has (dsF d s) k
      all_goals
        have HB := Lib.hid hb
        clear hb
        go_wp2_with fail
        refine wp_region_held_drew (S := fun W => Blk W w.heap.size 38 #[.slice (some ⟨g, 0, none⟩) (n + 1) cap, .int .i64 s] ∧ Below w.heap.size w W) (by kernel_rfl) ?_ (fun hS => ?_)
        · exact ⟨hB.drew, hbw.drew⟩
        refine wpAnyH_take (i := 0) (v := .string T) rfl (by kernel_rfl) (by kernel_rfl) (by kernel_rfl) (fun _ _ _ h => h) (Or.inl ⟨by rfl, ?_⟩) hS ?_
        · intro w hSw
          go_simp
        simp only [Act.put, List.getElem_toArray, List.getElem_cons_succ, List.getElem_cons_zero, List.setIfInBounds_toArray, List.set_cons_zero, List.set_cons_succ]
        refine wpAnyH_take (i := 1) (v := .string (T.extract 1 5)) rfl (by kernel_rfl) (by kernel_rfl) (by kernel_rfl) (fun _ _ _ h => h) (Or.inl ⟨by rfl, ?_⟩) hS ?_
        · intro w hSw
          go_simp
        simp only [Act.put, List.getElem_toArray, List.getElem_cons_succ, List.getElem_cons_zero, List.setIfInBounds_toArray, List.set_cons_zero, List.set_cons_succ]
        refine wpAnyH_take (i := 2) (v := .pointer (some ⟨w.heap.size, 1, none⟩)) rfl (by kernel_rfl) (by kernel_rfl) (by kernel_rfl) (fun _ _ _ h => h) (Or.inl ⟨by rfl, ?_⟩) hS ?_
        · intro w hSw
          go_simp
        simp only [Act.put, List.getElem_toArray, List.getElem_cons_succ, List.getElem_cons_zero, List.setIfInBounds_toArray, List.set_cons_zero, List.set_cons_succ]
        refine wpAnyH_take (i := 3) (v := .int .i64 s) rfl (by kernel_rfl) (by kernel_rfl) (by kernel_rfl) (fun _ _ _ h => h) (Or.inl ⟨by rfl, ?_⟩) hS ?_
        · rintro W hSw
          have h7 := hSw.1.cell2.2
          clear hSw
          go_simp
        simp only [Act.put, List.getElem_toArray, List.getElem_cons_succ, List.getElem_cons_zero, List.setIfInBounds_toArray, List.set_cons_zero, List.set_cons_succ]
        refine wpAnyH_take (i := 5) (v := .int .i64 k) rfl (by kernel_rfl) (by kernel_rfl) (by kernel_rfl) (fun _ _ _ h => h) (Or.inl ⟨by rfl, ?_⟩) hS ?_
        · intro w hSw
          go_simp
        simp only [Act.put, List.getElem_toArray, List.getElem_cons_succ, List.getElem_cons_zero, List.setIfInBounds_toArray, List.set_cons_zero, List.set_cons_succ]
        refine wpAnyH_ready (rs := [4]) (by kernel_rfl) (by simp) ?_
        refine AllReadyH.cons rfl (fun K hK => ?_) AllReadyH.nil
        rw [if_pos (by rfl)]
        refine op_call 48 _ _ rfl (enters_of Tryz.func48 (by kernel_rfl) rfl) _ (spec_l2To _ 4 s _ HE hs) rfl ?_
        rintro e w3 ⟨rfl, rfl⟩
        refine ⟨_, rfl, ?_⟩
        refine hK.out _ _ ?_ (fun hS1 => ?_)
        · exact hS
        clear hK K
        replace hS := hS1
        clear hS1
        simp only [Act.put, List.getElem_toArray, List.getElem_cons_succ, List.getElem_cons_zero, List.setIfInBounds_toArray, List.set_cons_zero, List.set_cons_succ]
        rw [HV.out]
        refine wpAnyH_ready (rs := [6]) (by kernel_rfl) (by simp) ?_
        refine AllReadyH.cons rfl (fun K hK => ?_) AllReadyH.nil
        rw [if_pos (by rfl)]
        refine op_call 47 _ _ rfl (enters_of Tryz.func47 (by kernel_rfl) rfl) _ (spec_l1Has _ k _ (by omega)) rfl ?_
        rintro e w4 ⟨rfl, rfl⟩
        refine ⟨_, rfl, ?_⟩
        refine hK.out _ _ ?_ (fun hS1 => ?_)
        · exact hS
        clear hK K
        replace hS := hS1
        clear hS1
        simp only [Act.put, List.getElem_toArray, List.getElem_cons_succ, List.getElem_cons_zero, List.setIfInBounds_toArray, List.set_cons_zero, List.set_cons_succ]
        rw [HB.out]
        refine wpAnyH_done (by kernel_rfl) ?_ _
        go_wp2_with fail
      · go_roundw
        case rel => exact ⟨k + 1, by omega, by go_num, by rw [HX.out, HB.out]; rfl, hS.1, hS.2⟩
        case measure => simp [intOf]; omega
      · refine (spec_l14Dec k hlt _).mono ?_
        rintro e w5 ⟨rfl, hb5⟩
        go_wp2_with fail
        go_roundw
        case rel => exact ⟨k + 1, by omega, by go_num, by rw [HX.out, HB.out]; rfl, hS.1.grown hb5, below_step hS.2 hb5⟩
        case measure => simp [intOf]; omega
    · obtain rfl : k = 4 := by omega
      go_wp2_with fail
      go_ret
      rw [HO.out]
      exact ⟨rfl, hbw⟩
theorem spec_opts68 (d : List Int) (ht : (Ct.n0 68 d).WF) (hnd : d.length = 4) (ts : List Ct) (s : Nat) (hs : s < 4) (g cap : Nat) (w : World) (hT : Todo w g (Ct.n0 68 d :: ts)) (hn : ts.length ≤ 1000000) :
    Calls Tryz.prog 16 #[.agg #[.slice (some ⟨g, 0, none⟩) (ts.length + 1) cap, .int .i64 s]] w fun e w' => e = .returned (.string (optsB ((Ct.n0 68 d).opts s))) ∧ Below w.heap.size w w' := by
  have hl := hT.last
  have hop := op_text (Ct.n0 68 d)
  have hb0 : ((bt (Ct.n0 68 d).text 0).toNat : Int) = 68 := by rw [hop]; rfl
  have hs5 : (Ct.n0 68 d).text.size = 5 := by rw [Ct.text_size, Ct.len0, hnd]
  have hre := rel_ext ht hnd
  have HE := Lib.hid hre.1
  have HV := Lib.hid (hre.2 s hs)
  have HO : Hid ((Ct.n0 68 d).opts s = (List.range 4).filter fun u => has (dsF d s) u) := rfl
  generalize (Ct.n0 68 d).text = T at *
  clear hre hop
  generalize ts.length = n at *
  have hl' : ∀ o, (w.alloc o).cell? ⟨g, n, none⟩ = some (.string T) := fun o => cell_grown hl (below_new (Below.refl _ _) _)
  have BN := Blk.new w 38 #[.slice (some ⟨g, 0, none⟩) (n + 1) cap, .int .i64 s]
  have hB0 := below_new (Below.refl w.heap.size w) (Obj.cells #[.slice (some ⟨g, 0, none⟩) (n + 1) cap, .int .i64 s] 38)
  go_enter Tryz.func16, Tryz.ntmps16
  go_wp2_with fail
  go_loopw [4, 5] (fun o i wr => ∃ k : Nat, k ≤ 4 ∧ i = .int .i64 k ∧ o = .string (optsB ((List.range k).filter fun u => has (dsF d s) u)) ∧ Blk wr w.heap.size 38 #[.slice (some ⟨g, 0, none⟩) (n + 1) cap, .int .i64 s] ∧ Below w.heap.size w wr) (fun _ i _ => 4 - (intOf i).toNat)
  case atStart => exact ⟨0, by omega, rfl, rfl, BN, hB0⟩
  case round =>
    obtain ⟨k, hk, rfl, rfl, hB, hbw⟩ := hrel
    clear hl hl' BN hB0
    by_cases hlt : k < 4
    · have HX := Lib.hid (optsB_succ (fun u => has (dsF d s) u) k)
      have hfl := filt_le (fun u => has (dsF d s) u) k
      have hfs := optsB_size ((List.range k).filter fun u => has (dsF d s) u)
      generalize optsB ((List.range k).filter fun u => has (dsF d s) u) = A at *
      have hA4 : A.size ≤ 4 := by omega
      clear hfl hfs
      cases hb : has (dsF d s) k
      all_goals
        have HB := Lib.hid hb
        clear hb
        go_wp2_with fail
        refine wp_region_held_drew (S := fun W => Blk W w.heap.size 38 #[.slice (some ⟨g, 0, none⟩) (n + 1) cap, .int .i64 s] ∧ Below w.heap.size w W) (by kernel_rfl) ?_ (fun hS => ?_)
        · exact ⟨hB.drew, hbw.drew⟩
        refine wpAnyH_take (i := 0) (v := .string T) rfl (by kernel_rfl) (by kernel_rfl) (by kernel_rfl) (fun _ _ _ h => h) (Or.inl ⟨by rfl, ?_⟩) hS ?_
        · intro w hSw
          go_simp
        simp only [Act.put, List.getElem_toArray, List.getElem_cons_succ, List.getElem_cons_zero, List.setIfInBounds_toArray, List.set_cons_zero, List.set_cons_succ]
        refine wpAnyH_take (i := 1) (v := .string (T.extract 1 5)) rfl (by kernel_rfl) (by kernel_rfl) (by kernel_rfl) (fun _ _ _ h => h) (Or.inl ⟨by rfl, ?_⟩) hS ?_
        · intro w hSw
          go_simp
        simp only [Act.put, List.getElem_toArray, List.getElem_cons_succ, List.getElem_cons_zero, List.setIfInBounds_toArray, List.set_cons_zero, List.set_cons_succ]
        refine wpAnyH_take (i := 2) (v := .pointer (some ⟨w.heap.size, 1, none⟩)) rfl (by kernel_rfl) (by kernel_rfl) (by kernel_rfl) (fun _ _ _ h => h) (Or.inl ⟨by rfl, ?_⟩) hS ?_
        · intro w hSw
          go_simp
        simp only [Act.put, List.getElem_toArray, List.getElem_cons_succ, List.getElem_cons_zero, List.setIfInBounds_toArray, List.set_cons_zero, List.set_cons_succ]
        refine wpAnyH_take (i := 3) (v := .int .i64 s) rfl (by kernel_rfl) (by kernel_rfl) (by kernel_rfl) (fun _ _ _ h => h) (Or.inl ⟨by rfl, ?_⟩) hS ?_
        · rintro W hSw
          have h7 := hSw.1.cell2.2
          clear hSw
          go_simp
        simp only [Act.put, List.getElem_toArray, List.getElem_cons_succ, List.getElem_cons_zero, List.setIfInBounds_toArray, List.set_cons_zero, List.set_cons_succ]
        refine wpAnyH_take (i := 5) (v := .int .i64 k) rfl (by kernel_rfl) (by kernel_rfl) (by kernel_rfl) (fun _ _ _ h => h) (Or.inl ⟨by rfl, ?_⟩) hS ?_
        · intro w hSw
          go_simp
        simp only [Act.put, List.getElem_toArray, List.getElem_cons_succ, List.getElem_cons_zero, List.setIfInBounds_toArray, List.set_cons_zero, List.set_cons_succ]
        refine wpAnyH_ready (rs := [4]) (by kernel_rfl) (by simp) ?_
        refine AllReadyH.cons rfl (fun K hK => ?_) AllReadyH.nil
        rw [if_pos (by rfl)]
        refine op_call 48 _ _ rfl (enters_of Tryz.func48 (by kernel_rfl) rfl) _ (spec_l2To _ 4 s _ HE hs) rfl ?_
        rintro e w3 ⟨rfl, rfl⟩
        refine ⟨_, rfl, ?_⟩
        refine hK.out _ _ ?_ (fun hS1 => ?_)
        · exact hS
        clear hK K
        replace hS := hS1
        clear hS1
        simp only [Act.put, List.getElem_toArray, List.getElem_cons_succ, List.getElem_cons_zero, List.setIfInBounds_toArray, List.set_cons_zero, List.set_cons_succ]
        rw [HV.out]
        refine wpAnyH_ready (rs := [6]) (by kernel_rfl) (by simp) ?_
        refine AllReadyH.cons rfl (fun K hK => ?_) AllReadyH.nil
        rw [if_pos (by rfl)]
        refine op_call 47 _ _ rfl (enters_of Tryz.func47 (by kernel_rfl) rfl) _ (spec_l1Has _ k _ (by omega)) rfl ?_
        rintro e w4 ⟨rfl, rfl⟩
        refine ⟨_, rfl, ?_⟩
        refine hK.out _ _ ?_ (fun hS1 => ?_)
        · exact hS
        clear hK K
        replace hS := hS1
        clear hS1
        simp only [Act.put, List.getElem_toArray, List.getElem_cons_succ, List.getElem_cons_zero, List.setIfInBounds_toArray, List.set_cons_zero, List.set_cons_succ]
        rw [HB.out]
        refine wpAnyH_done (by kernel_rfl) ?_ _
        go_wp2_with fail
      · go_roundw
        case rel => exact ⟨k + 1, by omega, by go_num, by rw [HX.out, HB.out]; rfl, hS.1, hS.2⟩
        case measure => simp [intOf]; omega
      · refine (spec_l14Dec k hlt _).mono ?_
        rintro e w5 ⟨rfl, hb5⟩
        go_wp2_with fail
        go_roundw
        case rel => exact ⟨k + 1, by omega, by go_num, by rw [HX.out, HB.out]; rfl, hS.1.grown hb5, below_step hS.2 hb5⟩
        case measure => simp [intOf]; omega
    · obtain rfl : k = 4 := by omega
      go_wp2_with fail
      go_ret
      rw [HO.out]
      exact ⟨rfl, hbw⟩
theorem next_pick {t : Ct} (ht : t.WF) {s : Nat} (h : t.next s = .pick) : (∃ d, t = .n0 65 d ∧ d.length = 4) ∨ (∃ d, t = .n0 68 d ∧ d.length = 4) ∨ (∃ x, t = .n1 42 [] x) ∨ (∃ x, t = .n1 43 [] x) ∨ (∃ x y, t = .n2 38 [] x y) ∨ (∃ x y, t = .n2 124 [] x y) := by
  cases t with
  | n0 o d =>
    rcases shp0 ht.1 with ⟨rfl | rfl | rfl, hn⟩ | ⟨rfl | rfl, hn⟩ | ⟨rfl | rfl, hn⟩
    · simp [Ct.next] at h
    · simp [Ct.next] at h
    · simp [Ct.next] at h
    · change (if has (dsF d 0) s then Nx.go [] else Nx.stop true) = .pick at h; split at h <;> cases h
    · change (if has (dsF d 0) s then Nx.go [] else Nx.stop false) = .pick at h; split at h <;> cases h
    · exact .inl ⟨d, rfl, hn⟩
    · exact .inr (.inl ⟨d, rfl, hn⟩)
  | n1 o d x =>
    rcases shp1 ht.1.1 with ⟨rfl, hn⟩ | ⟨rfl | rfl, hn⟩
    · change (if has (dsF d 0) s then Nx.go [x, .n1 119 d x] else Nx.go []) = .pick at h; split at h <;> cases h
    · obtain rfl := List.eq_nil_of_length_eq_zero hn; exact .inr (.inr (.inl ⟨x, rfl⟩))
    · obtain rfl := List.eq_nil_of_length_eq_zero hn; exact .inr (.inr (.inr (.inl ⟨x, rfl⟩)))
  | n2 o d x y =>
    rcases shp2 ht.1.1 with ⟨rfl | rfl | rfl, hn⟩ | ⟨rfl, hn⟩
    · change Nx.go [x, y] = .pick at h; cases h
    · obtain rfl := List.eq_nil_of_length_eq_zero hn; exact .inr (.inr (.inr (.inr (.inl ⟨x, y, rfl⟩))))
    · obtain rfl := List.eq_nil_of_length_eq_zero hn; exact .inr (.inr (.inr (.inr (.inr ⟨x, y, rfl⟩))))
    · change (if has (dsF d 0) s then Nx.go [x] else Nx.go [y]) = .pick at h; split at h <;> cases h
theorem spec_l6Options (t : Ct) (ht : t.WF) (ts : List Ct) (s : Nat) (hs : s < 4) (hp : t.next s = .pick) (g cap : Nat) (w : World) (hT : Todo w g (t :: ts)) (hn : ts.length ≤ 1000000) :
    Calls Tryz.prog 16 #[.agg #[.slice (some ⟨g, 0, none⟩) (ts.length + 1) cap, .int .i64 s]] w fun e w' => e = .returned (.string (optsB (t.opts s))) ∧ Below w.heap.size w w' := by
  rcases next_pick ht hp with ⟨d, rfl, hd⟩ | ⟨d, rfl, hd⟩ | ⟨x, rfl⟩ | ⟨x, rfl⟩ | ⟨x, y, rfl⟩ | ⟨x, y, rfl⟩
  · exact spec_opts65 d ht hd ts s hs g cap w hT hn
  · exact spec_opts68 d ht hd ts s hs g cap w hT hn
  · exact spec_opts01 _ (by show (42 : UInt8) ≠ 65; decide) (by show (42 : UInt8) ≠ 68; decide) ts s g cap w hT hn
  · exact spec_opts01 _ (by show (43 : UInt8) ≠ 65; decide) (by show (43 : UInt8) ≠ 68; decide) ts s g cap w hT hn
  · exact spec_opts01 _ (by show (38 : UInt8) ≠ 65; decide) (by show (38 : UInt8) ≠ 68; decide) ts s g cap w hT hn
  · exact spec_opts01 _ (by show (124 : UInt8) ≠ 65; decide) (by show (124 : UInt8) ≠ 68; decide) ts s g cap w hT hn
end Go.Proofs.YtaeibhpkcikaaaaGreatDoor
