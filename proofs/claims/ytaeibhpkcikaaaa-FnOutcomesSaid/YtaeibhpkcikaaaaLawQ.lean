/- The program's CountPlays and OutcomesOf return what the reference's return: the laws' walks. -/
import Derived.Test.YtaeibhpkcikaaaaImQ
import Derived.Test.YtaeibhpkcikaaaaSpQ2
import Derived.Test.YtaeibhpkcikaaaaGP
namespace Go.Proofs.Ytaeibhpkcikaaaa
set_option linter.unusedVariables false
set_option linter.unusedSimpArgs false
open Go.RowKit Go.Shelf
set_option maxRecDepth 100000
set_option maxHeartbeats 10000000

def anyW : ByteArray := ⟨#[115, 97, 109, 33, 63, 65, 68, 59, 38, 124, 105, 119, 42, 43]⟩
theorem loopW_all : ∀ n : _root_.Fin 256, inOps loopW (UInt8.ofNat n.val) = !nlp (UInt8.ofNat n.val) := by decide +kernel
theorem anyW_all : ∀ n : _root_.Fin 256, (shp (UInt8.ofNat n.val)).isSome = true → inOps anyW (UInt8.ofNat n.val) = true := by decide +kernel
theorem loopW_nlp (o : UInt8) : inOps loopW o = !nlp o := by
  have := loopW_all ⟨o.toNat, o.toNat_lt⟩
  simpa using this
theorem anyW_shp (o : UInt8) (h : (shp o).isSome = true) : inOps anyW o = true := by
  have := anyW_all ⟨o.toNat, o.toNat_lt⟩
  simpa [h] using this
theorem knowsAny : ∀ t : Ct, t.WF → t.knows (inOps anyW) = true
  | .n0 o d, h => anyW_shp o (by rw [h.1]; rfl)
  | .n1 o d x, h => by simp only [Ct.knows, Bool.and_eq_true]; exact ⟨anyW_shp o (by rw [h.1.1]; rfl), knowsAny x h.2⟩
  | .n2 o d x y, h => by simp only [Ct.knows, Bool.and_eq_true]; exact ⟨anyW_shp o (by rw [h.1.1]; rfl), knowsAny x h.2.1, knowsAny y h.2.2⟩
theorem cnt_any (t : Ct) (h : t.WF) : t.cnt (inOps anyW) = t.num := (Ct.cnt_all t).2 (knowsAny t h)
theorem cnt_none (p : UInt8 → Bool) : ∀ t : Ct, t.cnt p = 0 ↔ t.knows (fun o => !p o) = true
  | .n0 o d => by simp only [Ct.cnt, Ct.knows]; cases p o <;> simp
  | .n1 o d x => by
    have := cnt_none p x
    simp only [Ct.cnt, Ct.knows, Bool.and_eq_true]
    rw [← this]
    cases p o <;> simp
  | .n2 o d x y => by
    have := cnt_none p x
    have := cnt_none p y
    simp only [Ct.cnt, Ct.knows, Bool.and_eq_true]
    rw [← cnt_none p x, ← cnt_none p y]
    cases p o <;> simp
theorem cnt_loop (t : Ct) : t.cnt (inOps loopW) = 0 ↔ t.flat = true := by
  rw [cnt_none]
  have : (fun o => !inOps loopW o) = nlp := by funext o; rw [loopW_nlp]; simp
  rw [this]; rfl
theorem small_tot (t : Ct) : tot [t] = t.num := by simp [tot]
def APEnd (a : Sm) (ok : Bool) (w : World) (e : Ending) (w' : World) : Prop := e = .returned (.tuple #[.agg a.cel, .bool ok]) ∧ Below w.heap.size w w'
theorem impl_allPlays_no1 (c : ByteArray) (s : Int) (hc : c.size ≤ 4611686018427387904) (h : isCt c = false) (w : World) : Calls Try.prog 83 #[.string c, .int .i64 s] w (APEnd Sm.zero false w) := by
  obtain ⟨fs2, hu2⟩ := tl_u
  have hb0 := below_new (Below.refl w.heap.size w) (Obj.cells #[.int .i64 0, .int .i64 0, .bool false, .bool false] 96)
  have BZ := Blk.new w 96 #[.int .i64 0, .int .i64 0, .bool false, .bool false]
  go_enter Try.func83, Try.ntmps83
  go_wp2_with fail
  refine (impl_read c hc _).mono ?_
  rintro e w1 ⟨hA, hb1⟩
  obtain rfl : e = .returned (.pointer none) := by
    rcases hA with ⟨t, _, h1, rfl, h3, _⟩ | ⟨_, rfl⟩
    · rw [isCt_text h1 h3] at h; cases h
    · rfl
  clear hA h
  have BZ1 := (BZ.grown hb1).old (Obj.cells #[.int .i64 0, .int .i64 0, .bool false, .bool false] 96)
  have BT := Blk.new w1 96 #[.int .i64 0, .int .i64 0, .bool false, .bool false]
  have hb := below_new (below_step hb0 hb1) (Obj.cells #[.int .i64 0, .int .i64 0, .bool false, .bool false] 96)
  go_wp2_with (first
    | (refine wp_store_Blk rfl _ _ _ rfl w.heap.size rfl rfl BZ1 tl_i rfl (by simp [Value.oneCell']) ?_)
    | (refine wp_load_Blk rfl _ _ rfl w1.heap.size rfl BT hu2 rfl tl_i ?_))
  exact ret_Blk2 rfl w.heap.size rfl (BZ1.setRow _) hu2 rfl tl_i rfl ⟨rfl, below_setRow hb (Nat.le_refl _) _⟩
theorem impl_allPlays_loop (t : Ct) (ht : t.WF) (hlen : t.len ≤ 200) (s : Int) (h : t.flat = false) (w : World) : Calls Try.prog 83 #[.string t.text, .int .i64 s] w (APEnd Sm.zero false w) := by
  obtain ⟨fs2, hu2⟩ := tl_u
  have hb0 := below_new (Below.refl w.heap.size w) (Obj.cells #[.int .i64 0, .int .i64 0, .bool false, .bool false] 96)
  have BZ := Blk.new w 96 #[.int .i64 0, .int .i64 0, .bool false, .bool false]
  have HC1 := Lib.hid (impl_count loopW t hlen)
  have HC2 := Lib.hid (impl_count anyW t hlen)
  have hcl := cnt_loop t
  have hca := cnt_any t ht
  have hnl := t.num_le
  have hpos : 0 < (t.cnt (inOps loopW) : Int) := by
    have : t.cnt (inOps loopW) ≠ 0 := fun e => by rw [hcl.1 e] at h; cases h
    omega
  clear hcl hca h
  go_enter Try.func83, Try.ntmps83
  go_wp2_with fail
  refine (impl_read t.text (szCtP hlen) _).mono ?_
  intro e w1 hA
  obtain ⟨b, rfl, hT, hb1⟩ := read_tree ht hlen hA
  clear hA
  have BZ1 := (BZ.grown hb1).old (Obj.cells #[.int .i64 0, .int .i64 0, .bool false, .bool false] 96)
  have BT := Blk.new w1 96 #[.int .i64 0, .int .i64 0, .bool false, .bool false]
  have hb := below_new (below_step hb0 hb1) (Obj.cells #[.int .i64 0, .int .i64 0, .bool false, .bool false] 96)
  have hT2 := Tree.grown (below_new (Below.refl w1.heap.size w1) (Obj.cells #[.int .i64 0, .int .i64 0, .bool false, .bool false] 96)) t b hT
  go_wp2_with fail
  refine (HC1.out b _ _ hT2).mono ?_
  rintro e w' ⟨rfl, rfl⟩
  go_wp2_with (first
    | (refine wp_store_Blk rfl _ _ _ rfl w.heap.size rfl rfl BZ1 tl_i rfl (by simp [Value.oneCell']) ?_)
    | (refine wp_load_Blk rfl _ _ rfl w1.heap.size rfl BT hu2 rfl tl_i ?_))
  exact ret_Blk2 rfl w.heap.size rfl (BZ1.setRow _) hu2 rfl tl_i rfl ⟨rfl, below_setRow hb (Nat.le_refl _) _⟩
theorem impl_allPlays_big (t : Ct) (ht : t.WF) (hlen : t.len ≤ 200) (s : Int) (h : t.flat = true) (h2 : ¬ t.num ≤ 10) (w : World) : Calls Try.prog 83 #[.string t.text, .int .i64 s] w (APEnd Sm.zero false w) := by
  obtain ⟨fs2, hu2⟩ := tl_u
  have hb0 := below_new (Below.refl w.heap.size w) (Obj.cells #[.int .i64 0, .int .i64 0, .bool false, .bool false] 96)
  have BZ := Blk.new w 96 #[.int .i64 0, .int .i64 0, .bool false, .bool false]
  have HC1 := Lib.hid (impl_count loopW t hlen)
  have HC2 := Lib.hid (impl_count anyW t hlen)
  have hcl := cnt_loop t
  have hca := cnt_any t ht
  have hnl := t.num_le
  have HZ := Lib.hid (hcl.2 h)
  have hpos : (10 : Int) < (t.cnt (inOps anyW) : Int) := by omega
  clear hcl hca h h2
  go_enter Try.func83, Try.ntmps83
  go_wp2_with fail
  refine (impl_read t.text (szCtP hlen) _).mono ?_
  intro e w1 hA
  obtain ⟨b, rfl, hT, hb1⟩ := read_tree ht hlen hA
  clear hA
  have BZ1 := (BZ.grown hb1).old (Obj.cells #[.int .i64 0, .int .i64 0, .bool false, .bool false] 96)
  have BT := Blk.new w1 96 #[.int .i64 0, .int .i64 0, .bool false, .bool false]
  have hb := below_new (below_step hb0 hb1) (Obj.cells #[.int .i64 0, .int .i64 0, .bool false, .bool false] 96)
  have hT2 := Tree.grown (below_new (Below.refl w1.heap.size w1) (Obj.cells #[.int .i64 0, .int .i64 0, .bool false, .bool false] 96)) t b hT
  go_wp2_with fail
  refine (HC1.out b _ _ hT2).mono ?_
  rintro e w' ⟨rfl, rfl⟩
  rw [HZ.out, show ((0 : Nat) : Int) = 0 from rfl]
  go_wp2_with fail
  refine (HC2.out b _ _ hT2).mono ?_
  rintro e w' ⟨rfl, rfl⟩
  go_wp2_with (first
    | (refine wp_store_Blk rfl _ _ _ rfl w.heap.size rfl rfl BZ1 tl_i rfl (by simp [Value.oneCell']) ?_)
    | (refine wp_load_Blk rfl _ _ rfl w1.heap.size rfl BT hu2 rfl tl_i ?_))
  exact ret_Blk2 rfl w.heap.size rfl (BZ1.setRow _) hu2 rfl tl_i rfl ⟨rfl, below_setRow hb (Nat.le_refl _) _⟩
theorem impl_allPlays_st (t : Ct) (ht : t.WF) (hlen : t.len ≤ 200) (s : Int) (h : t.flat = true) (h2 : t.num ≤ 10) (h3 : stOk s = false) (w : World) : Calls Try.prog 83 #[.string t.text, .int .i64 s] w (APEnd Sm.zero false w) := by
  obtain ⟨fs2, hu2⟩ := tl_u
  have hb0 := below_new (Below.refl w.heap.size w) (Obj.cells #[.int .i64 0, .int .i64 0, .bool false, .bool false] 96)
  have BZ := Blk.new w 96 #[.int .i64 0, .int .i64 0, .bool false, .bool false]
  have HC1 := Lib.hid (impl_count loopW t hlen)
  have HC2 := Lib.hid (impl_count anyW t hlen)
  have hcl := cnt_loop t
  have hca := cnt_any t ht
  have hnl := t.num_le
  have HZ := Lib.hid (hcl.2 h)
  have hpos : ¬ (10 : Int) < (t.cnt (inOps anyW) : Int) := by omega
  have HS := Lib.hid h3
  clear hcl hca h h2 h3
  go_enter Try.func83, Try.ntmps83
  go_wp2_with fail
  refine (impl_read t.text (szCtP hlen) _).mono ?_
  intro e w1 hA
  obtain ⟨b, rfl, hT, hb1⟩ := read_tree ht hlen hA
  clear hA
  have BZ1 := (BZ.grown hb1).old (Obj.cells #[.int .i64 0, .int .i64 0, .bool false, .bool false] 96)
  have BT := Blk.new w1 96 #[.int .i64 0, .int .i64 0, .bool false, .bool false]
  have hb := below_new (below_step hb0 hb1) (Obj.cells #[.int .i64 0, .int .i64 0, .bool false, .bool false] 96)
  have hT2 := Tree.grown (below_new (Below.refl w1.heap.size w1) (Obj.cells #[.int .i64 0, .int .i64 0, .bool false, .bool false] 96)) t b hT
  go_wp2_with fail
  refine (HC1.out b _ _ hT2).mono ?_
  rintro e w' ⟨rfl, rfl⟩
  rw [HZ.out, show ((0 : Nat) : Int) = 0 from rfl]
  go_wp2_with fail
  refine (HC2.out b _ _ hT2).mono ?_
  rintro e w' ⟨rfl, rfl⟩
  go_wp2_with fail
  refine (impl_stateOk _ _).mono ?_
  rintro e w' ⟨rfl, rfl⟩
  rw [HS.out]
  go_wp2_with (first
    | (refine wp_store_Blk rfl _ _ _ rfl w.heap.size rfl rfl BZ1 tl_i rfl (by simp [Value.oneCell']) ?_)
    | (refine wp_load_Blk rfl _ _ rfl w1.heap.size rfl BT hu2 rfl tl_i ?_))
  exact ret_Blk2 rfl w.heap.size rfl (BZ1.setRow _) hu2 rfl tl_i rfl ⟨rfl, below_setRow hb (Nat.le_refl _) _⟩
theorem impl_allPlays_yes (t : Ct) (ht : t.WF) (hlen : t.len ≤ 200) (s : Nat) (hs : s < 4) (h : t.flat = true) (h2 : t.num ≤ 10) (w : World) : Calls Try.prog 83 #[.string t.text, .int .i64 s] w (APEnd (t.all s) true w) := by
  obtain ⟨fs2, hu2⟩ := tl_u
  have hb0 := below_new (Below.refl w.heap.size w) (Obj.cells #[.int .i64 0, .int .i64 0, .bool false, .bool false] 96)
  have BZ := Blk.new w 96 #[.int .i64 0, .int .i64 0, .bool false, .bool false]
  have HC1 := Lib.hid (impl_count loopW t hlen)
  have HC2 := Lib.hid (impl_count anyW t hlen)
  have hcl := cnt_loop t
  have hca := cnt_any t ht
  have hnl := t.num_le
  have HZ := Lib.hid (hcl.2 h)
  have hpos : ¬ (10 : Int) < (t.cnt (inOps anyW) : Int) := by omega
  have HS : Hid (stOk (s : Int) = true) := stOk_of hs
  have hbd := all_bound 11 s [t] (fit_one ht hlen) (fun x hx => by simp at hx; subst hx; exact h) (by simp [tot]; omega)
  have h4 : (4 : Nat) ^ tot [t] ≤ 4 ^ 10 := Nat.pow_le_pow_right (by omega) (by rw [small_tot]; exact h2)
  have h40 : (allA 11 s [t]).plays ≤ 1048576 := Nat.le_trans hbd (Nat.le_trans h4 (by decide))
  have HW := Lib.hid (fun (S : Nat → Prop) (tb : Nat) (hSt : ¬ S tb) => impl_walk S tb hSt 11 s hs [t] (fit_one ht hlen) (fun x hx => by simp at hx; subst hx; exact h) (by rw [small_tot]; omega) (by rw [small_tot]; omega) 200 (by rw [small_tot]; omega) (by omega))
  clear hcl hca h h2 hbd h4
  go_enter Try.func83, Try.ntmps83
  go_wp2_with fail
  refine (impl_read t.text (szCtP hlen) _).mono ?_
  intro e w1 hA
  obtain ⟨b, rfl, hT, hb1⟩ := read_tree ht hlen hA
  clear hA
  have BZ1 := (BZ.grown hb1).old (Obj.cells #[.int .i64 0, .int .i64 0, .bool false, .bool false] 96)
  have BT := Blk.new w1 96 #[.int .i64 0, .int .i64 0, .bool false, .bool false]
  have hb := below_new (below_step hb0 hb1) (Obj.cells #[.int .i64 0, .int .i64 0, .bool false, .bool false] 96)
  have hT2 := Tree.grown (below_new (Below.refl w1.heap.size w1) (Obj.cells #[.int .i64 0, .int .i64 0, .bool false, .bool false] 96)) t b hT
  go_wp2_with fail
  refine (HC1.out b _ _ hT2).mono ?_
  rintro e w' ⟨rfl, rfl⟩
  rw [HZ.out, show ((0 : Nat) : Int) = 0 from rfl]
  go_wp2_with fail
  refine (HC2.out b _ _ hT2).mono ?_
  rintro e w' ⟨rfl, rfl⟩
  go_wp2_with fail
  refine (impl_stateOk _ _).mono ?_
  rintro e w' ⟨rfl, rfl⟩
  rw [HS.out]
  go_wp2_with fail
  refine (impl_start _ t b s _ hT2 (fun q hq => by have : q < w1.heap.size := hq; simp; omega)).mono ?_
  rintro e w2 ⟨g, rfl, hP, hb2⟩
  have HW2 := HW.out _ w1.heap.size (by show ¬ w1.heap.size < w1.heap.size; omega) g 1 1 rfl Sm.zero (by simp only [Sm.zero]; omega) C.zero w2 hP (BT.grown hb2) (fun q hq => by have : q < w1.heap.size := hq; have := hb2.size; simp at this; omega)
  rw [show ((200 - 200 : Nat) : Int) = 0 from rfl] at HW2
  have BZ2 := BZ1.grown hb2
  have hwl : w.heap.size < w1.heap.size := (BZ.grown hb1).lt
  clear HW hP
  go_wp2_with fail
  refine HW2.mono ?_
  rintro e w3 ⟨rfl, hg3, hB3⟩
  rw [Sm.zero_add (all_c 11 s [t] hs)] at hB3
  have BZ3 := BZ2.gb hg3 (by omega)
  have hb3 := (below_step hb hb2).grown hg3 (below_step hb hb2).size (fun k hk => by cases hk; omega)
  clear HW2
  go_wp2_with (first
    | (refine wp_store_Blk rfl _ _ _ rfl w.heap.size rfl rfl BZ3 tl_i rfl (by simp [Sm.cel, Value.oneCell']) ?_)
    | (refine wp_load_Blk rfl _ _ rfl w1.heap.size rfl hB3 hu2 rfl tl_i ?_))
  exact ret_Blk2 rfl w.heap.size rfl (BZ3.setRow _) hu2 rfl tl_i rfl ⟨rfl, below_setRow hb3 (Nat.le_refl _) _⟩
theorem impl_allPlays_B (t : Ct) (ht : t.WF) (hlen : t.len ≤ 200) (s : Int) (h : (t.flat && decide (t.num ≤ 10)) = false) (w : World) : Calls Try.prog 83 #[.string t.text, .int .i64 s] w (APEnd Sm.zero false w) := by
  cases hf : t.flat
  · exact impl_allPlays_loop t ht hlen s hf w
  · exact impl_allPlays_big t ht hlen s hf (by simpa [hf] using h) w
theorem impl_allPlays_A (c : ByteArray) (s : Int) (hc : c.size ≤ 4611686018427387904) (h : (isCt c && stOk s) = false) (w : World) : Calls Try.prog 83 #[.string c, .int .i64 s] w (APEnd Sm.zero false w) := by
  cases k1 : isCt c
  · exact impl_allPlays_no1 c s hc k1 w
  · obtain ⟨t, ht, rfl, hlt⟩ := ct_ofP k1
    cases hq : t.flat && decide (t.num ≤ 10)
    · exact impl_allPlays_B t ht hlt s hq w
    · have hh : t.flat = true ∧ t.num ≤ 10 := by simpa using hq
      exact impl_allPlays_st t ht hlt s hh.1 hh.2 (by simpa [k1] using h) w
theorem impl_CountPlays_no (c : ByteArray) (s : Int) (a : Sm) (HA : ∀ w, Calls Try.prog 83 #[.string c, .int .i64 s] w (APEnd a false w)) (w : World) : Calls Try.prog 33 #[.string c, .int .i64 s] w fun e w' => e = .returned (.int .i64 (-1)) ∧ Below w.heap.size w w' := by
  have H := Lib.hid HA
  clear HA
  go_enter Try.func33, Try.ntmps33
  go_wp2_with fail
  refine (H.out _).mono ?_
  rintro e w1 ⟨rfl, hb⟩
  go_wp2_with (refine wp_store_BlkNew rfl _ _ _ rfl rfl rfl tl_i rfl (by simp [Sm.cel, Value.oneCell']) ?_)
  go_ret
  exact ⟨rfl, below_new hb _⟩
theorem impl_CountPlays_yes (c : ByteArray) (s : Int) (a : Sm) (HA : ∀ w, Calls Try.prog 83 #[.string c, .int .i64 s] w (APEnd a true w)) (w : World) : Calls Try.prog 33 #[.string c, .int .i64 s] w fun e w' => e = .returned (.int .i64 (a.plays : Nat)) ∧ Below w.heap.size w w' := by
  have H := Lib.hid HA
  clear HA
  go_enter Try.func33, Try.ntmps33
  go_wp2_with fail
  refine (H.out _).mono ?_
  rintro e w1 ⟨rfl, hb⟩
  rw [show a.cel = #[.int .i64 (a.plays : Nat), .int .i64 a.ends, .bool a.angel, .bool a.demon] from rfl]
  go_wp2_with (refine wp_store_BlkNew rfl _ _ _ rfl rfl rfl tl_i rfl (by simp [Value.oneCell']) ?_)
  go_ret
  exact ⟨rfl, below_new hb _⟩
theorem impl_OutcomesOf_no (c : ByteArray) (s : Int) (a : Sm) (HA : ∀ w, Calls Try.prog 83 #[.string c, .int .i64 s] w (APEnd a false w)) (w : World) : Calls Try.prog 31 #[.string c, .int .i64 s] w fun e w' => e = .returned (.tuple #[.int .i64 (-1), .bool false, .bool false]) ∧ Below w.heap.size w w' := by
  have H := Lib.hid HA
  clear HA
  go_enter Try.func31, Try.ntmps31
  go_wp2_with fail
  refine (H.out _).mono ?_
  rintro e w1 ⟨rfl, hb⟩
  go_wp2_with (refine wp_store_BlkNew rfl _ _ _ rfl rfl rfl tl_i rfl (by simp [Sm.cel, Value.oneCell']) ?_)
  go_ret3
  exact ⟨rfl, below_new hb _⟩
theorem impl_OutcomesOf_yes (c : ByteArray) (s : Int) (a : Sm) (HA : ∀ w, Calls Try.prog 83 #[.string c, .int .i64 s] w (APEnd a true w)) (w : World) : Calls Try.prog 31 #[.string c, .int .i64 s] w fun e w' => e = .returned (.tuple #[.int .i64 a.ends, .bool a.angel, .bool a.demon]) ∧ Below w.heap.size w w' := by
  have H := Lib.hid HA
  clear HA
  go_enter Try.func31, Try.ntmps31
  go_wp2_with fail
  refine (H.out _).mono ?_
  rintro e w1 ⟨rfl, hb⟩
  rw [show a.cel = #[.int .i64 (a.plays : Nat), .int .i64 a.ends, .bool a.angel, .bool a.demon] from rfl]
  go_wp2_with (refine wp_store_BlkNew rfl _ _ _ rfl rfl rfl tl_i rfl (by simp [Value.oneCell']) ?_)
  go_region
  go_wp2_with fail
  go_ret3
  exact ⟨rfl, (below_new hb _).drew⟩
end Go.Proofs.Ytaeibhpkcikaaaa
