/- The program's ConcreteContract returns what the reference's returns: contracts and the law's walk. -/
import Derived.Test.YtaeibhpkcikaaaaImC2
import Derived.Test.YtaeibhpkcikaaaaSpC
import Derived.Test.YtaeibhpkcikaaaaLawD
namespace Go.Proofs.Ytaeibhpkcikaaaa
set_option linter.unusedVariables false
set_option linter.unusedSimpArgs false
open Go.RowKit Go.Shelf
set_option maxRecDepth 100000
set_option maxHeartbeats 1000000

def MapImp (r : Nat → Int) (bx bi bf : Nat) (t : Ct) : Prop := ∀ (b : Nat) (S : Nat → Prop) (w : World) (ok : Bool), (∀ k, S k → k < bf) → Tree w S t b → Env w bx bi bf r (img r 15) ok →
  Calls Try.prog 69 #[.pointer (some ⟨b, 0, none⟩), .func (.func 70) #[] #[.pointer (some ⟨bx, 0, none⟩), .pointer (some ⟨bf, 0, none⟩), .pointer (some ⟨bi, 0, none⟩)]] w fun e w' =>
    e = .returned (.string (t.conc r).text) ∧ BoolAt w' bf (ok && t.fits r) ∧ Below bf w w'
theorem Ct.conc_text (r : Nat → Int) (t : Ct) : (t.conc r).text = ⟨((t.conc r).headB ++ catB (t.parts.map (·.conc r))).toArray⟩ := by
  unfold Ct.text
  rw [Ct.bytes_parts, Ct.conc_parts]
theorem Ct.conc_head (r : Nat → Int) (t : Ct) (ht : t.WF) : (t.conc r).headB.length ≤ 5 := by
  have h1 := ht.shape
  have h2 := (shp_le h1).2
  unfold Ct.headB
  rw [Ct.conc_ds, List.length_cons, List.length_map, concD_len h1]
  omega
theorem impl_mp (r : Nat → Int) (hr : Cond r) (bx bi bf : Nat) (t : Ct) (ht : t.WF) (hl : t.len ≤ 200) (ih : ∀ z ∈ t.parts, MapImp r bx bi bf z) : MapImp r bx bi bf t := by
  intro b S w ok hSb hT hE
  obtain ⟨pv, hb0, hN, hp⟩ := hT.opened
  have hbf := hSb b hb0
  have HTX := Lib.hid (t.conc_text r)
  have HFT := Lib.hid (t.fits_parts r)
  have hwl : ∀ z ∈ t.parts, (z.conc r).text.size ≤ 200 := fun z hz => by
    have h1 := Ct.conc_len r z (Ct.parts_wf ht z hz)
    have h2 := Ct.len_part hz
    rw [Ct.text_size]; omega
  have hhead := t.conc_head r ht
  rcases hp with ⟨hp0, rfl⟩ | ⟨g, cap, hg, rfl, hp⟩
  · rw [hp0] at HTX HFT
    have HHE := Lib.hid hhead
    clear hhead hwl
    go_enter Try.func69, Try.ntmps69
    go_wp2_with fail
    refine (conc1 t ht b bx bi bf r hr _ ok _ hE hbf hN).mono ?_
    rintro e w1 ⟨rfl, hf1, hb1⟩
    have hpt := (hN.kept (hb1.block b hbf)).parts
    have HF1 := Lib.hid hf1
    clear hf1
    go_wp2_with fail
    go_loopw [5, 7, 16] (fun o _ i wr => i = .int .i64 0 ∧ o = .string ⟨(t.conc r).headB.toArray⟩ ∧ wr = w1) (fun _ _ _ _ => 0)
    case atStart => exact ⟨rfl, rfl, rfl⟩
    case round =>
      obtain ⟨rfl, rfl, rfl⟩ := hrel
      go_wp2_with fail
      go_ret
      refine ⟨ret_str ?_, ?_, hb1⟩
      · rw [HTX.out]; simp [catB]
      · rw [HFT.out]; simpa using HF1.out
  · go_enter Try.func69, Try.ntmps69
    go_wp2_with fail
    refine (conc1 t ht b bx bi bf r hr _ ok _ hE hbf hN).mono ?_
    rintro e w1 ⟨rfl, hf1, hb1⟩
    have hpt := (hN.kept (hb1.block b hbf)).parts
    have HF1 := Lib.hid hf1
    have HPL := Lib.hid t.parts_le
    clear hf1
    go_wp2_with fail
    generalize hL : t.parts = L at *
    clear hL
    generalize hHB : (t.conc r).headB = HB at *
    clear hHB
    go_loopw [5, 7, 16] (fun o _ i wr => ∃ us vs : List Ct, L = us ++ vs ∧ i = .int .i64 (us.length : Nat) ∧ o = .string ⟨(HB ++ catB (us.map (·.conc r))).toArray⟩ ∧ BoolAt wr bf (ok && fitsD r t.op t.ds && us.all fun z => z.fits r) ∧ Below bf w wr ∧ (catB (us.map (·.conc r))).length ≤ 200 * us.length) (fun _ _ i _ => 2 - (intOf i).toNat)
    case atStart => exact ⟨[], L, rfl, rfl, by simp [catB], by simpa using HF1.out, hb1, by simp [catB]⟩
    case round =>
      obtain ⟨us, vs, hpv, rfl, rfl, hfw, hbw, hcl⟩ := hrel
      have HFW := Lib.hid hfw
      cases vs with
      | nil =>
        have hpe : L = us := by simpa using hpv
        subst hpe
        clear hpv hfw
        go_wp2_with fail
        go_ret
        refine ⟨ret_str HTX.out.symm, ?_, hbw⟩
        rw [HFT.out, ← Bool.and_assoc]; exact HFW.out
      | cons z vs =>
        have hz : z ∈ L := by rw [hpv]; simp
        obtain ⟨c, hcell0, hTz⟩ := hp us.length z (by rw [hpv]; simp)
        have hcell := cell_kept hcell0 (hbw.block g (hSb g hg))
        unfold ptr at hcell
        have hlt : ((us.length : Nat) : Int) < (L.length : Int) := by rw [hpv]; simp; omega
        have hnk := ih z hz c S _ _ hSb (Tree.kept (fun k hk _ => hbw.block k (hSb k hk)) z c hTz) (hE.step hbw hfw)
        have hsz := hwl z hz
        have HPV := Lib.hid hpv
        have h2 : us.length ≤ 2 := by have := HPL.out; rw [hpv] at this; simp at this; omega
        clear hpv hp ih hfw hwl hcell0 hTz
        generalize hk : us.length = k at *
        have HK2 := Lib.hid hk
        clear hk
        go_wp2_with fail
        refine hnk.mono ?_
        rintro e w2 ⟨rfl, hf2, hb2⟩
        have HF2 := Lib.hid hf2
        clear hf2
        go_wp2_with fail
        go_roundw
        case rel =>
          refine ⟨us ++ [z], vs, by rw [HPV.out]; simp, by have := HK2.out; simp [this], ?_, ?_, hbw.trans hb2, ?_⟩
          · refine congrArg Value.string ?_
            apply ByteArray.ext; apply Array.ext'
            simp [catB_app, catB, Ct.text, ByteArray.data_append]
          · have := HF2.out
            rw [Bool.and_assoc] at this
            rw [List.all_append]
            simpa using this
          · have h7 := HK2.out
            have h8 : (z.conc r).bytes.length = (z.conc r).text.size := rfl
            rw [List.map_append, catB_app, List.length_append, List.length_append]
            simp only [List.map_cons, List.map_nil, catB, List.append_nil, List.length_cons, List.length_nil]
            omega
        case measure => have := HPL.out; simp [intOf]; omega
theorem impl_mapped (r : Nat → Int) (hr : Cond r) (bx bi bf : Nat) : ∀ t : Ct, t.WF → t.len ≤ 200 → MapImp r bx bi bf t
  | .n0 o d, ht, hl => impl_mp r hr bx bi bf _ ht hl (by simp [Ct.parts])
  | .n1 o d x, ht, hl => by
    have ihx := impl_mapped r hr bx bi bf x ht.2 (by rw [Ct.len1] at hl; omega)
    exact impl_mp r hr bx bi bf _ ht hl (by simp only [Ct.parts, List.mem_cons, List.not_mem_nil, or_false]; rintro z rfl; exact ihx)
  | .n2 o d x y, ht, hl => by
    have ihx := impl_mapped r hr bx bi bf x ht.2.1 (by rw [Ct.len2] at hl; omega)
    have ihy := impl_mapped r hr bx bi bf y ht.2.2 (by rw [Ct.len2] at hl; omega)
    refine impl_mp r hr bx bi bf _ ht hl ?_
    simp only [Ct.parts, List.mem_cons, List.not_mem_nil, or_false]
    rintro z (rfl | rfl)
    · exact ihx
    · exact ihy

/-! ### letters -/
def opsA : ByteArray := ⟨#[115, 97, 109, 33, 65, 59, 38, 124, 42, 43]⟩
def opsB : ByteArray := ⟨#[115, 97, 109, 33, 63, 65, 68, 59, 38, 124, 105, 119, 42, 43]⟩
theorem opsA_all : ∀ n : _root_.Fin 256, inOps opsA (UInt8.ofNat n.val) = concOp (UInt8.ofNat n.val) := by decide +kernel
theorem opsB_all : ∀ n : _root_.Fin 256, (shp (UInt8.ofNat n.val)).isSome = true → inOps opsB (UInt8.ofNat n.val) = true := by decide +kernel
theorem opsA_conc (o : UInt8) : inOps opsA o = concOp o := by
  have := opsA_all ⟨o.toNat, o.toNat_lt⟩
  simpa using this
theorem opsB_shp (o : UInt8) (h : (shp o).isSome = true) : inOps opsB o = true := by
  have := opsB_all ⟨o.toNat, o.toNat_lt⟩
  simp only [UInt8.ofNat_toNat] at this
  exact this h
theorem knowsB : ∀ t : Ct, t.WF → t.knows (inOps opsB) = true
  | .n0 o d, h => opsB_shp o (by rw [h.1]; rfl)
  | .n1 o d x, h => by simp only [Ct.knows, Bool.and_eq_true]; exact ⟨opsB_shp o (by rw [h.1.1]; rfl), knowsB x h.2⟩
  | .n2 o d x y, h => by simp only [Ct.knows, Bool.and_eq_true]; exact ⟨opsB_shp o (by rw [h.1.1]; rfl), knowsB x h.2.1, knowsB y h.2.2⟩
theorem opsA_fun : inOps opsA = concOp := funext opsA_conc
theorem counts_ne (t : Ct) (ht : t.WF) : ((t.cnt (inOps opsA) : Int) != (t.cnt (inOps opsB) : Int)) = !t.knows concOp := by
  rw [Ct.cnt_all t |>.2 (knowsB t ht), opsA_fun]
  cases h : t.knows concOp
  · have : t.cnt concOp ≠ t.num := fun e => by rw [(Ct.cnt_all t).1 e] at h; cases h
    simp [bne]; omega
  · rw [(Ct.cnt_all t).2 h]; simp

theorem impl_ConcreteContract_no1 (r c : ByteArray) (hr : r.size ≤ 4611686018427387904) (hc : c.size ≤ 4611686018427387904) (w : World) (H1 : Hid ((okTxt 4 r && isFn (val r)) = false)) :
    Calls Try.prog 23 #[.string r, .string c] w fun e w' => e = .returned (.tuple #[.string ⟨#[]⟩, .bool false]) ∧ Below w.heap.size w w' := by
  go_enter Try.func23, Try.ntmps23
  go_wp2_with fail
  refine (impl_readRel _ hr _).mono ?_
  rintro e w1 ⟨rfl, hb1⟩
  go_wp2_with (refine wp_store_New rfl 76 _ _ rfl rfl (f := tab 4 r) rfl rfl rel_i ?_)
  refine (impl_read c hc _).mono ?_
  rintro e w2 ⟨hA, hb2⟩
  obtain ⟨p, rfl⟩ : ∃ p, e = .returned (.pointer p) := by
    rcases hA with ⟨_, _, _, _, _, rfl, _⟩ | ⟨_, rfl⟩
    · exact ⟨_, rfl⟩
    · exact ⟨_, rfl⟩
  clear hA
  go_wp2_with fail
  refine (impl_IsFunction _ hr _).mono ?_
  rintro e w3 ⟨rfl, hb3⟩
  rw [H1.out]
  have hb := below_step (below_step (below_new hb1 (.cells (cs 4 (tab 4 r)) 76)) hb2) hb3
  go_wp2_with fail
  go_ret2
  exact ⟨rfl, hb⟩

theorem impl_ConcreteContract_no2 (r c : ByteArray) (hr : r.size ≤ 4611686018427387904) (hc : c.size ≤ 4611686018427387904) (w : World) (H1 : Hid ((okTxt 4 r && isFn (val r)) = true)) (H2 : isCt c = false) :
    Calls Try.prog 23 #[.string r, .string c] w fun e w' => e = .returned (.tuple #[.string ⟨#[]⟩, .bool false]) ∧ Below w.heap.size w w' := by
  go_enter Try.func23, Try.ntmps23
  go_wp2_with fail
  refine (impl_readRel _ hr _).mono ?_
  rintro e w1 ⟨rfl, hb1⟩
  go_wp2_with (refine wp_store_New rfl 76 _ _ rfl rfl (f := tab 4 r) rfl rfl rel_i ?_)
  refine (impl_read c hc _).mono ?_
  rintro e w2 ⟨hA, hb2⟩
  obtain rfl : e = .returned (.pointer none) := by
    rcases hA with ⟨t, _, h1, rfl, h3, _⟩ | ⟨_, rfl⟩
    · rw [isCt_text h1 h3] at H2; cases H2
    · rfl
  clear hA
  go_wp2_with fail
  refine (impl_IsFunction _ hr _).mono ?_
  rintro e w3 ⟨rfl, hb3⟩
  rw [H1.out]
  have hb := below_step (below_step (below_new hb1 (.cells (cs 4 (tab 4 r)) 76)) hb2) hb3
  go_wp2_with fail
  go_ret2
  exact ⟨rfl, hb⟩

theorem impl_ConcreteContract_yes (r : ByteArray) (t : Ct) (ht : t.WF) (hl : t.len ≤ 200) (hr : r.size ≤ 4611686018427387904) (w : World) (H0 : Hid (okTxt 4 r = true)) (H1 : Hid ((okTxt 4 r && isFn (val r)) = true)) :
    Calls Try.prog 23 #[.string r, .string t.text] w fun e w' => e = .returned (.tuple #[.string (orNone (t.knows concOp && t.fits (val r)) (t.conc (val r)).text), .bool (t.knows concOp && t.fits (val r))]) ∧ Below w.heap.size w w' := by
  have hne := counts_ne t ht
  have hcv := val_ok r
  have HI := Lib.hid (img_dia hcv)
  have hsz : (t.conc (val r)).text.size ≤ 281474976710656 := by rw [Ct.text_size, Ct.conc_len _ _ ht]; omega
  cases hkn : t.knows concOp <;> cases hft : t.fits (val r)
  all_goals
    rw [hkn] at hne
    simp only [Bool.not_true, Bool.not_false] at hne
    have HF := Lib.hid hft
    clear hkn hft
    go_enter Try.func23, Try.ntmps23
    go_wp2_with fail
    refine (impl_readRel _ hr _).mono ?_
    rintro e w1 ⟨rfl, hb1⟩
    rw [tab_val H0.out]
    go_wp2_with (refine wp_store_New rfl 76 _ _ rfl rfl (f := val r) rfl rfl rel_i ?_)
    refine (impl_read t.text (szCt hl) _).mono ?_
    rintro e w2 ⟨hA, hb2⟩
    obtain ⟨b, S, rfl, HT⟩ : ∃ b S, e = .returned (.pointer (some ⟨b, 0, none⟩)) ∧ Tree w2 S t b := by
      rcases hA with ⟨t', b, h1, h2, _, rfl, h5⟩ | ⟨h, _⟩
      · obtain rfl := text_inj ht h1 h2
        exact ⟨b, _, rfl, h5⟩
      · rw [isCt_text ht hl] at h; cases h
    clear hA
    go_wp2_with fail
    refine (impl_IsFunction _ hr _).mono ?_
    rintro e w3 ⟨rfl, hb3⟩
    rw [H1.out]
    have hb := below_step (below_step (below_new hb1 (.cells (cs 4 (val r)) 76)) hb2) hb3
    have HR : Row w3 w1.heap.size 76 4 (val r) := ((Row.new w1 _ 4 _).grown hb2).grown hb3
    have HT3 := Tree.grown hb3 t b HT
    go_wp2_with fail
    refine (impl_count _ t hl b S _ HT3).mono ?_
    rintro e w' ⟨rfl, rfl⟩
    go_wp2_with fail
    refine (impl_count _ t hl b S _ HT3).mono ?_
    rintro e w' ⟨rfl, rfl⟩
    change ((t.cnt (inOps ⟨#[115, 97, 109, 33, 65, 59, 38, 124, 42, 43]⟩) : Int) != (t.cnt (inOps ⟨#[115, 97, 109, 33, 63, 65, 68, 59, 38, 124, 105, 119, 42, 43]⟩) : Int)) = _ at hne
  iterate 2
    · go_wp2_with fail
      go_ret2
      exact ⟨rfl, hb⟩
  all_goals
    go_wp2_with (refine wp_load_Row rfl 76 _ rfl w1.heap.size rfl HR rel_u rfl rel_i ?_)
    refine (impl_turned _ _).mono ?_
    rintro e w4 ⟨rfl, hb4⟩
    go_wp2_with fail
    refine (impl_diamond _ _ _).mono ?_
    rintro e w5 ⟨rfl, hb5⟩
    rw [HI.out]
    have hB5 := below_step hb4 hb5
    have hb9 := below_step hb hB5
    go_wp2_with fail
    have HE : Env ((w5.alloc (.cells #[.int .i64 (img (val r) 15)] 3)).alloc (.cells #[.bool true] 4)) w1.heap.size w5.heap.size (w5.heap.size + 1) (val r) (img (val r) 15) true :=
      ⟨((HR.grown hB5).old _).old _, (World.cell?_alloc_past _ _ _ (by simp)).trans (World.cell?_alloc_at _ _ _ _ rfl), ⟨by have := heap_alloc_new (w5.alloc (.cells #[.int .i64 (img (val r) 15)] 3)) (.cells #[.bool true] 4); simpa using this⟩, by have := HR.lt; have := hB5.size; omega, by omega⟩
    have hb10 := below_new (below_new hb9 (.cells #[.int .i64 (img (val r) 15)] 3)) (.cells #[.bool true] 4)
    have HT5 := Tree.weaken (S' := fun k => k < w5.heap.size + 1) (fun k _ hk => by omega) t b (Tree.grown hB5 t b HT3)
    have HT6 := Tree.grown (below_new (below_new (Below.refl w5.heap.size w5) (.cells #[.int .i64 (img (val r) 15)] 3)) (.cells #[.bool true] 4)) t b HT5
    refine (impl_mapped (val r) hcv _ _ _ t ht hl b _ _ true (fun k hk => hk) HT6 HE).mono ?_
    rintro e w6 ⟨rfl, hf6, hb6⟩
    rw [HF.out] at hf6
    simp only [Bool.and_false, Bool.and_true] at hf6
    have hcf := hf6.cell
    have hb11 := hb10.trans (hb6.mono (by have := hb9.size; omega))
    go_wp2_with fail
  · go_ret2
    exact ⟨rfl, hb11⟩
  · refine (lib_Clone _ _ hsz).mono ?_
    rintro e w7 ⟨rfl, hb7⟩
    go_wp2_with fail
    go_ret2
    exact ⟨rfl, below_step hb11 hb7⟩

end Go.Proofs.Ytaeibhpkcikaaaa
