/- Contracts: the program's canonical contracts. -/
import Derived.Test.YtihmdfhgkfgmnaaIm5c
import Derived.Test.YtihmdfhgkfgmnaaCan
import Derived.Test.YtihmdfhgkfgmnaaLawD
import Derived.Test.YtihmdfhgkfgmnaaSpN
namespace Go.Proofs.Ytihmdfhgkfgmnaa
set_option linter.unusedVariables false
set_option linter.unusedSimpArgs false
open Go.RowKit Go.Shelf
set_option maxRecDepth 100000
set_option maxHeartbeats 1000000

theorem impl_least2 (p q : Nat) (c : Nat) (w : World) (hc : w.cell? ⟨c, 0, none⟩ = some (.int .i64 q)) :
    Calls Try.prog 114 #[.int .i64 p, .pointer (some ⟨c, 0, none⟩)] w fun e w' => e = .returned (.bool (((q : Int) != (p : Int)) && (bits .andNot .i64 (p : Int) (q : Int) == 0))) ∧ Below w.heap.size w w' := by
  have hsy : ((p : Int) != (q : Int)) = ((q : Int) != (p : Int)) := by
    rw [Bool.eq_iff_iff]; simp only [bne_iff_ne, ne_eq]; omega
  cases ha : ((q : Int) != (p : Int))
  all_goals
    rw [ha] at hsy
    go_enter Try.func114, Try.ntmps114
    go_wp2_with fail
    go_ret
    exact ⟨rfl, Below.refl _ _⟩
theorem some_less (f : Int) (q : Nat) : someP f (fun p => ((q : Int) != (p : Int)) && (bits .andNot .i64 (p : Int) (q : Int) == 0)) = lessIn f q 16 := by
  unfold someP lessIn
  congr 1
  funext p
  show (has f p && (((q : Int) != (p : Int)) && (bits .andNot .i64 (p : Int) (q : Int) == 0))) = _
  generalize has f p = a
  generalize ((q : Int) != (p : Int)) = b
  generalize (bits .andNot .i64 (p : Int) (q : Int) == 0) = c
  cases a <;> cases b <;> cases c <;> rfl
theorem impl_least1 (f : Int) (q : Nat) (hq : q < 16) (c : Nat) (w : World) (hc : w.cell? ⟨c, 0, none⟩ = some (.int .i64 f)) :
    Calls Try.prog 112 #[.int .i64 q, .pointer (some ⟨c, 0, none⟩)] w fun e w' => e = .returned (.bool (has f q && !lessIn f q 16)) ∧ Below w.heap.size w w' := by
  have hc' : ∀ o, (w.alloc o).cell? ⟨c, 0, none⟩ = some (.int .i64 f) := fun o => cell_grown hc (below_new (Below.refl _ _) _)
  have e0 : has f q = (bits .and .i64 (f / 2 ^ q) 1 == 1) := by simp [has, go_sem]
  have hq0 : (0 : Int) ≤ (q : Int) := by omega
  cases hf : has f q
  · have e1 : (bits .and .i64 (f / 2 ^ q) 1 == 1) = false := e0 ▸ hf
    clear hf e0
    go_enter Try.func112, Try.ntmps112
    go_wp2_with fail
    go_ret
    exact ⟨rfl, below_new (Below.refl _ _) _⟩
  · have e1 : (bits .and .i64 (f / 2 ^ q) 1 == 1) = true := e0 ▸ hf
    have HS := Lib.hid (some_less f q)
    clear hf e0
    go_enter Try.func112, Try.ntmps112
    go_wp2_with fail
    refine (impl_some f _ _ _ (fun p => ((q : Int) != (p : Int)) && (bits .andNot .i64 (p : Int) (q : Int) == 0)) _ (enters_of Try.func114 (by kernel_rfl) rfl) ?_).mono ?_
    · intro W p hp hb
      exact impl_least2 p q _ W ((hb.cell (p := ⟨w.heap.size, 0, none⟩) (by simp)).trans (World.cell?_alloc_at _ _ _ _ rfl))
    rintro e w1 ⟨rfl, hb1⟩
    rw [HS.out]
    go_wp2_with fail
    go_ret
    exact ⟨rfl, below_step (below_new (Below.refl _ _) _) hb1⟩
theorem impl_LeastOf (f : Int) (hf : 0 ≤ f ∧ f ≤ 65535) (w : World) :
    Calls Try.prog 51 #[.int .i64 f] w fun e w' => e = .returned (.int .i64 (leastF f)) ∧ Below w.heap.size w w' := by
  go_enter Try.func51, Try.ntmps51
  go_wp2_with fail
  refine (impl_FamilyValid _ hf _).mono ?_
  rintro e w' ⟨rfl, rfl⟩
  go_wp2_with fail
  refine (impl_familyVal _ _ _ (fun q => has f q && !lessIn f q 16) _ (enters_of Try.func112 (by kernel_rfl) rfl) ?_).mono ?_
  · intro W q hq hb
    exact impl_least1 f q hq _ W ((hb.cell (p := ⟨w.heap.size, 0, none⟩) (by simp)).trans (World.cell?_alloc_at _ _ _ _ rfl))
  rintro e w1 ⟨rfl, hb1⟩
  go_wp2_with fail
  go_ret
  exact ⟨rfl, below_step (below_new (Below.refl _ _) _) hb1⟩
theorem impl_canon1 (t : Nat → Int) (q : Nat) (hq : q < 16) (b c : Nat) (w : World) (HT : Row w b 46 16 t) (hc : w.cell? ⟨c, 0, none⟩ = some (.int .i64 q)) (s : Nat) (hs : s < 4) :
    Calls Try.prog 50 #[.int .i64 s, .pointer (some ⟨b, 0, none⟩), .pointer (some ⟨c, 0, none⟩)] w fun e w' => e = .returned (.bool (has (leastF (famT t s)) q)) ∧ Below w.heap.size w w' := by
  have hq0 : (0 : Int) ≤ (q : Int) := by omega
  go_enter Try.func50, Try.ntmps50
  go_wp2_with fail
  refine wp_region_held_drew (S := fun W => Row W b 46 16 t ∧ W.cell? ⟨c, 0, none⟩ = some (.int .i64 q)) (by kernel_rfl) ?_ (fun hS => ?_)
  · exact ⟨HT.drew, hc⟩
  refine wpAnyH_take (i := 0) (v := .agg (cs 16 (t))) rfl (by kernel_rfl) (by kernel_rfl) (by kernel_rfl) (fun _ _ _ h => h) (yields_Row (by rfl) _ _ rfl (b) rfl (fun _ h => h.1) trans_u rfl trans_i) hS ?_
  simp only [Act.put, List.getElem_toArray, List.getElem_cons_succ, List.getElem_cons_zero, List.setIfInBounds_toArray, List.set_cons_zero, List.set_cons_succ]
  refine wpAnyH_take (i := 1) (v := .int .i64 s) rfl (by kernel_rfl) (by kernel_rfl) (by kernel_rfl) (fun _ _ _ h => h) (Or.inl ⟨by rfl, ?_⟩) hS ?_
  · intro w hSw
    go_simp
  simp only [Act.put, List.getElem_toArray, List.getElem_cons_succ, List.getElem_cons_zero, List.setIfInBounds_toArray, List.set_cons_zero, List.set_cons_succ]
  refine wpAnyH_take (i := 4) (v := .int .i64 q) rfl (by kernel_rfl) (by kernel_rfl) (by kernel_rfl) (fun _ _ _ h => h) (Or.inl ⟨by rfl, ?_⟩) hS ?_
  · rintro w ⟨c1, c2⟩
    go_simp
  simp only [Act.put, List.getElem_toArray, List.getElem_cons_succ, List.getElem_cons_zero, List.setIfInBounds_toArray, List.set_cons_zero, List.set_cons_succ]
  refine wpAnyH_ready (rs := [2]) (by kernel_rfl) (by simp) ?_
  refine AllReadyH.cons rfl (fun K hK => ?_) AllReadyH.nil
  rw [if_pos (by rfl)]
  refine op_call 52 _ _ rfl (enters_of Try.func52 (by kernel_rfl) rfl) _ (impl_tfamily t s hs _) rfl ?_
  rintro e w3 ⟨rfl, hb3⟩
  refine ⟨_, rfl, ?_⟩
  refine hK.out _ _ ?_ (fun hS1 => ?_)
  · exact ⟨hS.1.grown hb3, cell_grown hS.2 hb3⟩
  clear hK K
  replace hS := hS1
  clear hS1
  simp only [Act.put, List.getElem_toArray, List.getElem_cons_succ, List.getElem_cons_zero, List.setIfInBounds_toArray, List.set_cons_zero, List.set_cons_succ]
  refine wpAnyH_ready (rs := [3]) (by kernel_rfl) (by simp) ?_
  refine AllReadyH.cons rfl (fun K hK => ?_) AllReadyH.nil
  rw [if_pos (by rfl)]
  refine op_call 51 _ _ rfl (enters_of Try.func51 (by kernel_rfl) rfl) _ (impl_LeastOf _ (fit16_le (famT_fit t s)) _) rfl ?_
  rintro e w4 ⟨rfl, hb4⟩
  refine ⟨_, rfl, ?_⟩
  refine hK.out _ _ ?_ (fun hS1 => ?_)
  · exact ⟨hS.1.grown hb4, cell_grown hS.2 hb4⟩
  clear hK K
  replace hS := hS1
  clear hS1
  simp only [Act.put, List.getElem_toArray, List.getElem_cons_succ, List.getElem_cons_zero, List.setIfInBounds_toArray, List.set_cons_zero, List.set_cons_succ]
  refine wpAnyH_take (i := 5) (v := .int .i64 (leastF (famT t s) / 2 ^ q)) rfl (by kernel_rfl) (by kernel_rfl) (by kernel_rfl) (fun _ _ _ h => h) (Or.inl ⟨by rfl, ?_⟩) hS ?_
  · intro w hSw
    go_simp
  simp only [Act.put, List.getElem_toArray, List.getElem_cons_succ, List.getElem_cons_zero, List.setIfInBounds_toArray, List.set_cons_zero, List.set_cons_succ]
  refine wpAnyH_take (i := 6) (v := .int .i64 (bits .and .i64 (leastF (famT t s) / 2 ^ q) 1)) rfl (by kernel_rfl) (by kernel_rfl) (by kernel_rfl) (fun _ _ _ h => h) (Or.inl ⟨by rfl, ?_⟩) hS ?_
  · intro w hSw
    go_simp
  simp only [Act.put, List.getElem_toArray, List.getElem_cons_succ, List.getElem_cons_zero, List.setIfInBounds_toArray, List.set_cons_zero, List.set_cons_succ]
  refine wpAnyH_take (i := 7) (v := .bool (bits .and .i64 (leastF (famT t s) / 2 ^ q) 1 == 1)) rfl (by kernel_rfl) (by kernel_rfl) (by kernel_rfl) (fun _ _ _ h => h) (Or.inl ⟨by rfl, ?_⟩) hS ?_
  · intro w hSw
    go_simp
  simp only [Act.put, List.getElem_toArray, List.getElem_cons_succ, List.getElem_cons_zero, List.setIfInBounds_toArray, List.set_cons_zero, List.set_cons_succ]
  refine wpAnyH_take (i := 8) (v := .bool (bits .and .i64 (leastF (famT t s) / 2 ^ q) 1 == 1)) rfl (by kernel_rfl) (by kernel_rfl) (by kernel_rfl) (fun _ _ _ h => h) (Or.inl ⟨by rfl, ?_⟩) hS ?_
  · intro w hSw
    go_simp
  simp only [Act.put, List.getElem_toArray, List.getElem_cons_succ, List.getElem_cons_zero, List.setIfInBounds_toArray, List.set_cons_zero, List.set_cons_succ]
  refine wpAnyH_done (by kernel_rfl) ?_ _
  go_wp2_with fail
  go_ret
  exact ⟨ret_bool (by simp [has]), below_step (((Below.refl _ _).drew).trans hb3) hb4⟩
def valsB (l : List (List UInt8)) : List Value := l.map fun s => .string ⟨s.toArray⟩
def StrsAt (w : World) (g : Nat) (l : List (List UInt8)) : Prop := ∀ (j : Nat) (s : List UInt8), l[j]? = some s → w.cell? ⟨g, j, none⟩ = some (.string ⟨s.toArray⟩)
theorem owned_strs {w : World} {base : Nat} {e : TypeId} {v : Value} {l : List (List UInt8)} (h : w.ownsRow base e 1 v l.length (valsB l)) (hne : v ≠ .slice none 0 0) :
    ∃ g cap, v = .slice (some ⟨g, 0, none⟩) l.length cap ∧ StrsAt w g l := by
  rcases h.2 with ⟨rfl, _⟩ | ⟨g, cap, cur, rfl, _⟩
  · exact absurd rfl hne
  · refine ⟨g, cap, rfl, fun j x hj => ?_⟩
    have h1 := World.ownsRow.cells h (g := g) rfl j (.string ⟨x.toArray⟩) (by simp [valsB, hj])
    have h2 : (⟨g, 0, none⟩ : Addr).add j = ⟨g, j, none⟩ := by unfold Addr.add; split <;> simp_all
    rwa [h2] at h1
theorem str_info : (Try.prog.info? 9).map (fun i => (i.zero, i.size, i.bytes)) = some (some (.string ⟨#[]⟩), 1, 16) := by kernel_rfl
theorem barB_size (A : List UInt8) : (⟨A.toArray⟩ : ByteArray).size = A.length := by simp [ByteArray.size]
theorem impl_CanonicalContract_no (c : ByteArray) (hc : c.size ≤ 4611686018427387904) (w : World) (H : isCt c = false) :
    Calls Try.prog 15 #[.string c] w fun e w' => e = .returned (.tuple #[.string ⟨#[]⟩, .bool false]) ∧ Below w.heap.size w w' := by
  go_enter Try.func15, Try.ntmps15
  go_wp2_with fail
  refine (impl_read c hc _).mono ?_
  rintro e w2 ⟨hA, hb2⟩
  obtain rfl : e = .returned (.pointer none) := by
    rcases hA with ⟨t, _, h1, rfl, h3, _⟩ | ⟨_, rfl⟩
    · rw [isCt_text h1 h3] at H; cases H
    · rfl
  clear hA
  go_wp2_with fail
  go_ret2
  exact ⟨rfl, hb2⟩
theorem impl_CanonicalContract_yes (t : Ct) (ht : t.WF) (hl : t.len ≤ 200) (w : World) :
    Calls Try.prog 15 #[.string t.text] w fun e w' => e = .returned (.tuple #[.string (canonB (startsT t.sem)), .bool true]) ∧ Below w.heap.size w w' := by
  obtain ⟨i0, hi, hz0, hz1, hz2⟩ := info_parts str_info
  go_enter Try.func15, Try.ntmps15
  go_wp2_with fail
  refine (impl_read t.text (szCt hl) _).mono ?_
  rintro e w1 ⟨hA, hb1⟩
  obtain ⟨b, S, rfl, HT⟩ : ∃ b S, e = .returned (.pointer (some ⟨b, 0, none⟩)) ∧ Tree w1 S t b := by
    rcases hA with ⟨t', b, h1, h2, _, rfl, h5⟩ | ⟨h, _⟩
    · obtain rfl := text_inj ht h1 h2
      exact ⟨b, _, rfl, h5⟩
    · rw [isCt_text ht hl] at h; cases h
  clear hA
  go_wp2_with fail
  refine (impl_trans t ht b S _ HT).mono ?_
  rintro e w2 ⟨rfl, hb2⟩
  have hb12 := below_step hb1 hb2
  go_wp2_with (refine wp_store_New rfl 46 _ _ rfl rfl (f := t.sem) rfl rfl trans_i ?_)
  have hRA : Row (w2.alloc (.cells (cs 16 t.sem) 46)) w2.heap.size 46 16 t.sem := Row.new w2 _ 16 _
  have hsA : (w2.alloc (.cells (cs 16 t.sem) 46)).heap.size = w2.heap.size + 1 := by simp
  have hbA : Below w.heap.size w (w2.alloc (.cells (cs 16 t.sem) 46)) := below_new hb12 _
  have hwle : w.heap.size ≤ w2.heap.size + 1 := by have := hb12.size; omega
  generalize w2.alloc (.cells (cs 16 t.sem) 46) = wA at *
  generalize hB2 : w2.heap.size + 1 = B at *
  have hlB : w2.heap.size < B := by omega
  clear hB2
  have hw0 : (wA.alloc (Obj.cells #[] 9)).ownsRow B 9 1 (.slice (some ⟨B, 0, none⟩) 0 0) 0 [] := by
    rw [← hsA]; exact World.ownsRow_made _ #[] _ (Nat.le_refl _) (by decide) rfl
  have hb0 : Below B wA (wA.alloc (Obj.cells #[] 9)) := by rw [← hsA]; exact below_new (Below.refl _ _) _
  go_loopw [6, 7, 8, 9, 20] (fun v _ _ _ i wr => ∃ k : Nat, k ≤ 16 ∧ i = .int .i64 k ∧ wr.ownsRow B 9 1 v (onesB (startsT t.sem) (List.range k)).length (valsB (onesB (startsT t.sem) (List.range k))) ∧ v ≠ .slice none 0 0 ∧ Below B wA wr) (fun _ _ _ _ i _ => 16 - (intOf i).toNat)
  case atStart => exact ⟨0, by omega, rfl, hw0, by simp, hb0⟩
  case round =>
    obtain ⟨k, hk, rfl, hown, hne, hbk⟩ := hrel
    clear hw0 hb0
    have HRk := hRA.below hbk hlB
    by_cases hlt : k < 16
    · have hk0 : (0 : Int) ≤ (k : Int) := by omega
      have hk1 : (k : Int) ≤ 15 := by omega
      have hsc := startsT_c t.sem k
      have hln := onesB_len (startsT t.sem) k
      have HON := Lib.hid (onesB_succ (startsT t.sem) k)
      have HOB : Hid (oneB (startsT t.sem) k = [59, 33, dg (startsT t.sem k), 68, dg k, dg k, dg k, dg k]) := rfl
      have hcell : (wr.alloc (.cells #[.int .i64 k] 3)).cell? ⟨wr.heap.size, 0, none⟩ = some (.int .i64 k) := World.cell?_alloc_at _ _ _ _ rfl
      generalize onesB (startsT t.sem) (List.range k) = L at *
      go_wp2_with fail
      refine (impl_states _ _ _ (fun s => has (leastF (famT t.sem s)) k) _ (enters_of Try.func50 (by kernel_rfl) rfl) ?_).mono ?_
      · intro W s hs hb
        exact impl_canon1 t.sem k hlt _ _ W ((HRk.old _).grown hb) (cell_grown hcell hb) s hs
      rintro e w4 ⟨rfl, hb4⟩
      have hq := cell_grown hcell hb4
      have hB4 : Below wr.heap.size wr w4 := below_step (below_new (Below.refl _ _) _) hb4
      have hown4 := own_below hown hB4
      have hszr := hbk.size
      have hsz4 := hB4.size
      have hb14 : Below B wA w4 := hbk.trans (hB4.mono (by omega))
      clear hcell hown hb4
      rw [show mk (fun s => has (leastF (famT t.sem s)) k) 4 = startsT t.sem k from rfl]
      generalize oneB (startsT t.sem) k = ob at *
      generalize startsT t.sem k = M at *
      have HM := Lib.hid hsc
      clear hsc
      cases hz : (M != 0)
      · have HZ := Lib.hid hz
        go_wp2_with fail
        go_roundw
        case rel => exact ⟨k + 1, by omega, by go_num, by rw [HON.out, HZ.out]; simpa using hown4, hne, hb14⟩
        case measure => simp [intOf]; omega
      · have HZ := Lib.hid hz
        go_wp2_with fail
        refine (impl_digit _ _ hk0 hk1).mono ?_
        rintro e w' ⟨rfl, rfl⟩
        go_wp2_with fail
        refine (impl_digit _ _ HM.out.1 HM.out.2).mono ?_
        rintro e w' ⟨rfl, rfl⟩
        go_wp2_with (first
          | (at_builtin; refine wpList_append_own _ rfl _ _ _ rfl B 9 i0 (.string ⟨#[]⟩) 1 16 (by kernel_rfl) hi hz0 hz1 hz2 rfl (by decide) _ _ _ rfl (hown4.alloc _) ⟨w4.heap.size, 0, none⟩ 1 1 [.string (⟨#[59, 33]⟩ ++ dgs M ++ ⟨#[68]⟩ ++ dgs k ++ dgs k ++ dgs k ++ dgs k)] rfl rfl ?c1 ?c2 ?c3 ?c4 ?c5 ?_)
          | go_in)
        case c1 =>
          intro j y hj
          match j, hj with
          | 0, hj => simp at hj; subst hj; simp [Addr.add]
        case c2 => intro y hy; simp at hy; subst hy; rfl
        case c3 => unfold maxLen; omega
        case c4 => omega
        case c5 => simp; omega
        intro v' w5 hown' hgrow hnil
        have hb15 : Below B wA w5 := (hb14.alloc (by omega) _).grown hgrow (by simp; omega) (fun k hk => (hown4.lt k hk).1)
        have e8 : Value.string (⟨#[59, 33]⟩ ++ dgs M ++ ⟨#[68]⟩ ++ dgs k ++ dgs k ++ dgs k ++ dgs k) = .string ⟨ob.toArray⟩ := by
          rw [HOB.out]
          refine congrArg Value.string ?_
          apply ByteArray.ext; apply Array.ext'
          simp [dgs, ByteArray.data_append]
        rw [e8] at hown'
        have e9 : valsB L ++ [.string ⟨ob.toArray⟩] = valsB (L ++ [ob]) := by simp [valsB]
        rw [e9] at hown'
        go_wp2_with fail
        go_roundw
        case rel => exact ⟨k + 1, by omega, by go_num, by rw [HON.out, HZ.out, if_pos rfl, List.length_append]; exact hown', by simpa using hnil, hb15⟩
        case measure => simp [intOf]; omega
    · obtain rfl : k = 16 := by omega
      have hln := onesB_len (startsT t.sem) 16
      have HEI := Lib.hid (onesB_eight (startsT t.sem) (List.range 16))
      have hbz := hbA.trans (hbk.mono hwle)
      have HCB : Hid (canonB (startsT t.sem) = if onesB (startsT t.sem) (List.range 16) = [] then ⟨#[97]⟩ else ⟨(joinB (onesB (startsT t.sem) (List.range 16))).toArray⟩) := rfl
      generalize onesB (startsT t.sem) (List.range 16) = L at *
      obtain ⟨g, cap, rfl, hg⟩ := owned_strs hown hne
      cases L with
      | nil =>
        clear hg hown hne
        go_wp2_with fail
        go_ret2
        rw [HCB.out]
        exact ⟨rfl, hbz⟩
      | cons s0 L0 =>
        have HC2 : Hid (canonB (startsT t.sem) = ⟨(joinB (s0 :: L0)).toArray⟩) := by show _ = _; rw [HCB.out, if_neg (by simp)]
        have hL1 : 1 ≤ (s0 :: L0).length := by simp
        clear HCB hown hne
        generalize hLL : s0 :: L0 = L at *
        clear hLL
        go_wp2_with fail
        go_loop [10, 11, 12, 50] (fun o _ _ i => ∃ (us vs : List (List UInt8)) (A : List UInt8), L = us ++ vs ∧ i = .int .i64 (us.length : Nat) ∧ o = .string ⟨A.toArray⟩ ∧ A ++ joinB vs = joinB L ∧ A.length ≤ 9 * us.length) (fun _ _ _ i => 17 - (intOf i).toNat)
        case atStart => exact ⟨[], L, [], rfl, rfl, rfl, rfl, by simp⟩
        case round =>
          obtain ⟨us, vs, A, hpv, rfl, rfl, hA, hAl⟩ := hrel
          cases vs with
          | nil =>
            have hpe : L = us := by simpa using hpv
            subst hpe
            have hAe : A = joinB L := by simpa [joinB] using hA
            subst hAe
            clear hpv
            go_wp2_with fail
            go_ret2
            rw [HC2.out]
            exact ⟨rfl, hbz⟩
          | cons x vs =>
            have hx : x ∈ L := by rw [hpv]; simp
            have hcell := hg us.length x (by rw [hpv]; simp)
            have hx8 : (⟨x.toArray⟩ : ByteArray).size = 8 := by rw [barB_size]; exact HEI.out x hx
            have hx9 : x.length = 8 := HEI.out x hx
            have HPV := Lib.hid hpv
            have HA := Lib.hid hA
            have hu16 : us.length ≤ 16 := by rw [hpv] at hln; simp at hln; omega
            cases vs with
            | nil =>
              have hlen : L.length = us.length + 1 := by rw [hpv]; simp
              have hlt2 : ((us.length : Nat) : Int) < (L.length : Int) := by omega
              have hnl : ¬ ((us.length : Nat) : Int) < (L.length : Int) - 1 := by omega
              clear hpv hA
              generalize hk : us.length = k at *
              have HK := Lib.hid hk
              clear hk hlen
              go_wp2_with fail
              go_round
              case rel =>
                refine ⟨us ++ [x], [], A ++ x, by rw [HPV.out]; simp, by have := HK.out; simp [this], ?_, ?_, ?_⟩
                · refine congrArg Value.string ?_
                  apply ByteArray.ext; apply Array.ext'
                  simp [ByteArray.data_append]
                · rw [← HA.out]; simp [joinB]
                · have := HK.out; simp; omega
              case measure => simp [intOf]; omega
            | cons y vs =>
              have hlen : L.length = us.length + 2 + vs.length := by rw [hpv]; simp; omega
              have hlt2 : ((us.length : Nat) : Int) < (L.length : Int) := by omega
              have hnl : ((us.length : Nat) : Int) < (L.length : Int) - 1 := by omega
              clear hpv hA
              generalize hk : us.length = k at *
              have HK := Lib.hid hk
              clear hk hlen
              go_wp2_with fail
              go_round
              case rel =>
                refine ⟨us ++ [x], y :: vs, A ++ (124 :: x), by rw [HPV.out]; simp, by have := HK.out; simp [this], ?_, ?_, ?_⟩
                · refine congrArg Value.string ?_
                  apply ByteArray.ext; apply Array.ext'
                  simp [ByteArray.data_append]
                · rw [← HA.out]; simp [joinB]
                · have := HK.out; simp; omega
              case measure => simp [intOf]; omega

theorem walk_ExactCanonicalContract (c : ByteArray) (w : World) (h1 : c.size ≤ maxLen) :
    Calls Try.prog 5 #[.string c] w fun e w' => e = .returned (.bool true) ∧ Below w.heap.size w w' := by
  unfold maxLen at h1
  by_cases hq : c.size ≤ 1048576
  · have hc' : c.size ≤ 4611686018427387904 := by omega
    cases hk : isCt c
    · go_enter Try.func5, Try.ntmps5
      go_wp2_with fail
      refine (spec_CanonicalContract_no _ hc' _ hk).mono ?_
      rintro e w' ⟨rfl, rfl⟩
      go_wp2_with fail
      refine (impl_CanonicalContract_no _ hc' _ hk).mono ?_
      rintro e w' ⟨rfl, hb⟩
      go_wp2_with fail
      go_ret
      exact ⟨rfl, hb⟩
    · obtain ⟨t, ht, rfl, hlt⟩ := ct_of hk
      have HC := Lib.hid hk
      clear hk
      go_enter Try.func5, Try.ntmps5
      go_wp2_with fail
      refine (spec_CanonicalContract_yes t ht hlt _ HC).mono ?_
      rintro e w1 ⟨rfl, hb1⟩
      go_wp2_with fail
      refine (impl_CanonicalContract_yes t ht hlt _).mono ?_
      rintro e w2 ⟨rfl, hb2⟩
      go_wp2_with fail
      go_ret
      exact ⟨rfl, below_step hb1 hb2⟩
  · go_enter Try.func5, Try.ntmps5
    go_wp2_with fail
    go_ret
    exact ⟨rfl, Below.refl _ _⟩
end Go.Proofs.Ytihmdfhgkfgmnaa
