/- Contracts: the program's turning, undoing, relations of transformers and repetitions. -/
import Derived.Test.YtfeaeabhnkehcaaSp12
import Derived.Deep.RegionWith
namespace Go.Proofs.Ytfeaeabhnkehcaa
set_option linter.unusedVariables false
set_option linter.unusedSimpArgs false
open Go.RowKit Go.Shelf
set_option maxRecDepth 100000
set_option maxHeartbeats 1000000

theorem impl_TurnRel1 (r q : Nat → Int) (w : World) :
    Calls Try.prog 57 #[.agg (cs 4 r), .agg (cs 4 q)] w fun e w' => e = .returned (.agg (cs 4 (turn r))) ∧ Below w.heap.size w w' := by
  have R1 : ∀ o1 o2, Row (((w.alloc (.cells (cs 4 r) 53)).alloc o1).alloc o2) w.heap.size 53 4 r := fun o1 o2 => ((Row.new w _ 4 r).old _).old _
  go_enter Try.func57, Try.ntmps57
  go_wp2_with (refine wp_load_Row rfl 53 _ rfl w.heap.size rfl (R1 _ _) rel_u rfl rel_i ?_)
  refine (impl_turned _ _).mono ?_
  rintro e w1 ⟨rfl, hb1⟩
  have HR0 : Row w1 (w.heap.size + 2) 53 4 (fun _ => 0) := (Row.zero4 _ _ _ (by simp)).grown hb1
  go_wp2_with (refine wp_store_Row rfl 53 _ _ rfl (w.heap.size + 2) rfl (f := turn r) rfl HR0 rel_i ?_)
  refine ret_Row rfl (w.heap.size + 2) rfl (HR0.setRow _) rel_u rfl rel_i rfl ⟨rfl, below_setRow ?_ (by omega) _⟩
  exact below_step (below_new (below_new (below_new (Below.refl _ _) _) _) _) hb1

theorem impl_TurnRel (r : ByteArray) (hr : r.size ≤ 4611686018427387904) (w : World) :
    Calls Try.prog 14 #[.string r] w fun e w' => e = .returned (.tuple #[.string (orNone (okTxt 4 r) (txt 4 (turn (val r)))), .bool (okTxt 4 r)]) ∧ Below w.heap.size w w' := by
  go_enter Try.func14, Try.ntmps14
  go_wp2_with fail
  refine (impl_two r r hr hr _ #[] #[] (fun x _ => turn x) (fun x y _ _ => turn_ok x) _ (enters_of Try.func57 (by kernel_rfl) rfl) ?_).mono ?_
  · intro W x y hx hy hb
    exact impl_TurnRel1 x y W
  rintro e w1 ⟨rfl, hb1⟩
  rw [Bool.and_self]
  go_wp2_with fail
  go_ret2
  exact ⟨rfl, hb1⟩

theorem impl_UndoOf1 (t : Nat → Int) (w : World) :
    Calls Try.prog 44 #[.agg (cs 16 t)] w fun e w' => e = .returned (.agg (cs 16 (mostT t skipT))) ∧ Below w.heap.size w w' := by
  have e0 : cs 16 (assertT 15) = cs 16 skipT := cs_ext ass_all
  go_enter Try.func44, Try.ntmps44
  go_wp2_with fail
  rw [← cs16_zero]
  obtain ⟨W, HT, HZ, hb, hW⟩ : ∃ W, Row W w.heap.size 44 16 t ∧ Row W (w.heap.size + 1) 44 16 (fun _ => 0) ∧ Below w.heap.size w W ∧ (w.alloc (.cells (cs 16 t) 44)).alloc (.cells (cs 16 fun _ => 0) 44) = W :=
    ⟨_, (Row.new w _ 16 t).old _, Row.newAt (w.alloc _) _ 16 _ _ (by simp), below_new (below_new (Below.refl _ _) _) _, rfl⟩
  rw [hW]; clear hW
  have hA : ∀ W, Calls Try.prog 46 #[.int .i64 15] W fun e w' => e = .returned (.agg (cs 16 skipT)) ∧ Below W.heap.size W w' := fun W => by
    have h := impl_assert 15 W
    rwa [e0] at h
  refine wp_region_held_drew (S := fun W => Row W w.heap.size 44 16 t ∧ ∃ f, Row W (w.heap.size + 1) 44 16 f) (by kernel_rfl) ?_ (fun hS => ?_)
  · exact ⟨HT.drew, _, HZ.drew⟩
  refine wpAnyH_take (i := 0) (v := .agg (cs 16 (t))) rfl (by kernel_rfl) (by kernel_rfl) (by kernel_rfl) (fun _ _ _ h => h) (yields_Row (by rfl) _ _ rfl (w.heap.size) rfl (fun _ h => h.1) trans_u rfl trans_i) hS ?_
  simp only [Act.put, List.getElem_toArray, List.getElem_cons_succ, List.getElem_cons_zero, List.setIfInBounds_toArray, List.set_cons_zero, List.set_cons_succ]
  refine wpAnyH_ready (rs := [1]) (by kernel_rfl) (by simp) ?_
  refine AllReadyH.cons rfl (fun K hK => ?_) AllReadyH.nil
  rw [if_pos (by rfl)]
  refine op_call 46 _ _ rfl (enters_of Try.func46 (by kernel_rfl) rfl) _ (hA _) rfl ?_
  rintro e w1 ⟨rfl, hb1⟩
  refine ⟨_, rfl, ?_⟩
  refine hK.out _ _ ?_ (fun hS1 => ?_)
  · exact ⟨hS.1.grown hb1, _, hS.2.choose_spec.grown hb1⟩
  clear hK K
  replace hS := hS1
  clear hS1
  simp only [Act.put, List.getElem_toArray, List.getElem_cons_succ, List.getElem_cons_zero, List.setIfInBounds_toArray, List.set_cons_zero, List.set_cons_succ]
  refine wpAnyH_ready (rs := [2]) (by kernel_rfl) (by simp) ?_
  refine AllReadyH.cons rfl (fun K hK => ?_) AllReadyH.nil
  rw [if_pos (by rfl)]
  refine op_call 45 _ _ rfl (enters_of Try.func45 (by kernel_rfl) rfl) _ (impl_beforeMost _ _ _) rfl ?_
  rintro e w2 ⟨rfl, hb2⟩
  refine ⟨_, rfl, ?_⟩
  refine hK.out _ _ ?_ (fun hS1 => ?_)
  · exact ⟨hS.1.grown hb2, _, hS.2.choose_spec.grown hb2⟩
  clear hK K
  replace hS := hS1
  clear hS1
  simp only [Act.put, List.getElem_toArray, List.getElem_cons_succ, List.getElem_cons_zero, List.setIfInBounds_toArray, List.set_cons_zero, List.set_cons_succ]
  have hS0 := hS
  refine wpAnyH_ready (rs := [3]) (by kernel_rfl) (by simp) ?_
  refine AllReadyH.cons rfl (fun K hK => ?_) AllReadyH.nil
  rw [if_pos (by rfl)]
  refine op_store_Row _ _ _ rfl (w.heap.size + 1) rfl (n := 16) (f := mostT t skipT) rfl hS.2.choose_spec trans_i ?_
  refine hK.out _ _ ?_ (fun hS1 => ?_)
  · exact ⟨hS.1.setRowOther _ _ (by omega), _, hS.2.choose_spec.setRow _⟩
  clear hK K
  replace hS := hS1
  clear hS1
  simp only [Act.put, List.getElem_toArray, List.getElem_cons_succ, List.getElem_cons_zero, List.setIfInBounds_toArray, List.set_cons_zero, List.set_cons_succ]
  refine wpAnyH_done (by kernel_rfl) ?_ _
  go_wp2_with fail
  refine ret_Row rfl (w.heap.size + 1) rfl (hS0.2.choose_spec.setRow _) trans_u rfl trans_i rfl ⟨rfl, below_setRow ?_ (by omega) _⟩
  exact below_step (below_step hb.drew hb1) hb2

theorem impl_UndoOf (t : ByteArray) (ht : t.size ≤ 4611686018427387904) (w : World) :
    Calls Try.prog 10 #[.string t] w fun e w' => e = .returned (.tuple #[.string (orNone (okTr t) (txt 16 (mostT (val t) skipT))), .bool (okTr t)]) ∧ Below w.heap.size w w' := by
  go_enter Try.func10, Try.ntmps10
  go_wp2_with fail
  refine (impl_alone t ht _ #[] #[] (fun x => mostT x skipT) (fun x _ => mostT_ok skipT_ok) _ (enters_of Try.func44 (by kernel_rfl) rfl) ?_).mono ?_
  · intro W x hx _ hb
    exact impl_UndoOf1 x W
  rintro e w1 ⟨rfl, hb1⟩
  go_wp2_with fail
  go_ret2
  exact ⟨rfl, hb1⟩

/-- does the table go through or? -/
def orAt (t : Nat → Int) (p q : Nat) : Bool := t (bits .or .i64 (p : Int) (q : Int)).toNat == bits .or .i64 (t p) (t q)
def orAll (b : Nat → Nat → Bool) : Bool := (List.range 16).all fun p => (List.range 16).all fun q => b p q
theorem orAll_at {b : Nat → Nat → Bool} (h : orAll b = true) {p q : Nat} (hp : p < 16) (hq : q < 16) : b p q = true := by
  simp only [orAll, List.all_eq_true, List.mem_range] at h; exact h p hp q hq
theorem orAll_of {b : Nat → Nat → Bool} (h : ∀ p, p < 16 → ∀ q, q < 16 → b p q = true) : orAll b = true := by
  simp only [orAll, List.all_eq_true, List.mem_range]; exact h

theorem impl_pairwise (g : FuncId) (bv lb : Array Value) (b : Nat → Nat → Bool) (w : World) (eg : Enters Try.prog g) (hg : AsksR Try.prog g bv lb 16 b w) :
    Calls Try.prog 105 #[.func (.func g) bv lb] w fun e w' => e = .returned (.bool (orAll b)) ∧ Below w.heap.size w w' := by
  have eg' : ∀ args w, (callFunc g args).run Try.prog w = .ok (.enter g args) w := eg
  go_enter Try.func105, Try.ntmps105
  go_wp2_with fail
  go_loopw [3, 5] (fun _ i wr => ∃ k : Nat, k ≤ 16 ∧ i = .int .i64 k ∧ Hid (∀ p, p < k → ∀ q, q < 16 → b p q = true) ∧ Below w.heap.size w wr) (fun _ i _ => 16 - (intOf i).toNat)
  case atStart => exact ⟨0, by omega, rfl, fun j hj => by omega, Below.refl _ _⟩
  case round =>
    obtain ⟨k, hk, rfl, HK, hb⟩ := hrel
    by_cases hlt : k < 16
    · have ek : decide ((k : Int) < 16) = true := by rw [decide_eq_true_eq]; omega
      go_wp2_with fail
      obtain ⟨wo, rfl⟩ : ∃ wo : World, wo = wr := ⟨_, rfl⟩
      go_loopw [4, 8] (fun _ i wr => ∃ j : Nat, j ≤ 16 ∧ i = .int .i64 j ∧ Hid (∀ q, q < j → b k q = true) ∧ Below w.heap.size w wr) (fun _ i _ => 16 - (intOf i).toNat)
      case atStart => exact ⟨0, by omega, rfl, fun j hj => by omega, hb⟩
      case round =>
        clear hb
        obtain ⟨j, hj, rfl, HJ, hb⟩ := hrel
        by_cases hjt : j < 16
        · cases hbk : b k j
          all_goals
            have H1 := Lib.hid hbk; clear hbk
            go_wp2_with fail
            refine (hg _ k j hlt hjt hb).mono ?_
            rintro e w1 ⟨rfl, hb1⟩
            rw [H1.out]
            go_wp2_with fail
          · go_ret
            refine ⟨ret_bool (Eq.symm ?_), below_step hb hb1⟩
            rw [Bool.eq_false_iff]; intro h
            have := orAll_at h hlt hjt
            rw [H1.out] at this; cases this
          · go_roundw
            case rel => exact ⟨j + 1, by omega, by go_num, fun q hq => by
              rcases Nat.lt_or_ge q j with h | h
              · exact HJ.out q h
              · obtain rfl : q = j := by omega
                exact H1.out, below_step hb hb1⟩
            case measure => simp [intOf]; omega
        · obtain rfl : j = 16 := by omega
          go_wp2_with fail
          go_roundw
          case rel => exact ⟨k + 1, by omega, by go_num, fun p hp => by
            rcases Nat.lt_or_ge p k with h | h
            · exact HK.out p h
            · obtain rfl : p = k := by omega
              exact HJ.out, hb⟩
          case measure => simp [intOf]; omega
    · obtain rfl : k = 16 := by omega
      go_wp2_with fail
      go_ret
      exact ⟨ret_bool (orAll_of HK.out).symm, hb⟩

theorem impl_disj1 (t : Nat → Int) (b : Nat) (w : World) (HT : Row w b 44 16 t) (p q : Nat) (hp : p < 16) (hq : q < 16) :
    Calls Try.prog 106 #[.int .i64 p, .int .i64 q, .pointer (some ⟨b, 0, none⟩)] w fun e w' => e = .returned (.bool (orAt t p q)) ∧ Below w.heap.size w w' := by
  have hc : C (bits .or .i64 (p : Int) (q : Int)) := C.or (c_nat hp) (c_nat hq)
  have h1 := HT.cell p hp
  have h2 := HT.cell q hq
  have h3 := HT.cell (bits .or .i64 (p : Int) (q : Int)).toNat (lt16 hc)
  obtain ⟨h4, h5⟩ := hc
  go_enter Try.func106, Try.ntmps106
  go_wp2_with fail
  go_quiet (fail)
  go_wp2_with fail
  go_ret
  exact ⟨rfl, below_drewN (Below.refl _ _) _⟩

theorem impl_disjunctive (t : Nat → Int) (w : World) :
    Calls Try.prog 50 #[.agg (cs 16 t)] w fun e w' => e = .returned (.bool (orAll (orAt t))) ∧ Below w.heap.size w w' := by
  go_enter Try.func50, Try.ntmps50
  go_wp2_with fail
  refine (impl_pairwise _ _ _ (orAt t) _ (enters_of Try.func106 (by kernel_rfl) rfl) ?_).mono ?_
  · intro W p q hp hq hb
    exact impl_disj1 t _ W ((Row.new w _ 16 t).grown hb) p q hp hq
  rintro e w1 ⟨rfl, hb1⟩
  go_wp2_with fail
  go_ret
  exact ⟨rfl, below_step (below_new (Below.refl _ _) _) hb1⟩

/-- the relation of a table -/
def relT (t : Nat → Int) (s : Nat) : Int := mk (fun u => has (t (2 ^ u)) s) 4
theorem relT_ok (t : Nat → Int) : Cond (relT t) := fun _ => C.mk
def isRelT (t : Nat → Int) : Bool := orAll (orAt t) && (t 0 == 0)

theorem impl_AngelRelOf1 (t : Nat → Int) (b : Nat) (w : World) (HT : Row w b 44 16 t) (s u : Nat) (hs : s < 4) (hu : u < 4) :
    Calls Try.prog 52 #[.int .i64 s, .int .i64 u, .pointer (some ⟨b, 0, none⟩)] w fun e w' => e = .returned (.bool (has (t (2 ^ u)) s)) ∧ Below w.heap.size w w' := by
  have h1 := HT.cell 1 (by decide)
  have h2 := HT.cell 2 (by decide)
  have h4 := HT.cell 4 (by decide)
  have h8 := HT.cell 8 (by decide)
  obtain rfl | rfl | rfl | rfl : u = 0 ∨ u = 1 ∨ u = 2 ∨ u = 3 := by omega
  all_goals
    go_enter Try.func52, Try.ntmps52
    go_wp2_with fail
    go_ret
    exact ⟨ret_bool (by simp [has]), Below.refl _ _⟩

theorem impl_AngelRelOf (t : ByteArray) (ht : t.size ≤ 4611686018427387904) (w : World) :
    Calls Try.prog 12 #[.string t] w fun e w' => e = .returned (.tuple #[.string (orNone (okTr t && isRelT (val t)) (txt 4 (relT (val t)))), .bool (okTr t && isRelT (val t))]) ∧ Below w.heap.size w w' := by
  cases h1 : okTr t
  · have H1 := Lib.hid h1; clear h1
    go_enter Try.func12, Try.ntmps12
    go_wp2_with fail
    refine (impl_readTrans _ ht _).mono ?_
    rintro e w1 ⟨rfl, hb1⟩
    rw [H1.out]
    go_wp2_with (refine wp_store_New rfl 44 _ _ rfl rfl (f := tabT t) rfl rfl trans_i ?_)
    go_ret2
    exact ⟨rfl, below_new hb1 _⟩
  · cases h2 : orAll (orAt (val t))
    · have H1 := Lib.hid h1; clear h1
      have H2 := Lib.hid h2; clear h2
      have H3 : Hid (isRelT (val t) = false) := by show isRelT (val t) = false; unfold isRelT; rw [H2.out]; rfl
      go_enter Try.func12, Try.ntmps12
      go_wp2_with fail
      refine (impl_readTrans _ ht _).mono ?_
      rintro e w1 ⟨rfl, hb1⟩
      rw [H1.out, tabT_val H1.out]
      have R1 : Row (w1.alloc (.cells (cs 16 (val t)) 44)) w1.heap.size 44 16 (val t) := Row.new w1 _ 16 _
      go_wp2_with (first
        | (refine wp_store_New rfl 44 _ _ rfl rfl (f := val t) rfl rfl trans_i ?_)
        | (refine wp_load_RowG (by rfl) 44 _ rfl w1.heap.size rfl R1 trans_u rfl trans_i ?_))
      refine (impl_disjunctive _ _).mono ?_
      rintro e w2 ⟨rfl, hb2⟩
      rw [H2.out]
      go_wp2_with fail
      go_ret2
      rw [H3.out]
      exact ⟨rfl, below_step (below_new hb1 _) hb2⟩
    · have H1 := Lib.hid h1; clear h1
      have H2 := Lib.hid h2; clear h2
      cases h3 : (val t 0 != 0)
      all_goals
        have H3 := Lib.hid h3; clear h3
        go_enter Try.func12, Try.ntmps12
        go_wp2_with fail
        refine (impl_readTrans _ ht _).mono ?_
        rintro e w1 ⟨rfl, hb1⟩
        rw [H1.out, tabT_val H1.out]
        have R1 : Row (w1.alloc (.cells (cs 16 (val t)) 44)) w1.heap.size 44 16 (val t) := Row.new w1 _ 16 _
        go_wp2_with (first
          | (refine wp_store_New rfl 44 _ _ rfl rfl (f := val t) rfl rfl trans_i ?_)
          | (refine wp_load_RowG (by rfl) 44 _ rfl w1.heap.size rfl R1 trans_u rfl trans_i ?_))
        refine (impl_disjunctive _ _).mono ?_
        rintro e w2 ⟨rfl, hb2⟩
        rw [H2.out]
        have hb := below_step (below_new hb1 (.cells (cs 16 (val t)) 44)) hb2
        have R2 := R1.grown hb2
        have hc := R2.cell 0 (by decide)
        have h0 := H3.out
        go_wp2_with fail
      · have H4 : Hid (isRelT (val t) = true) := by
          show isRelT (val t) = true
          have : (val t 0 == 0) = true := by have := H3.out; simpa using this
          unfold isRelT; rw [H2.out, this]; rfl
        refine (impl_makeRel _ _ _ (fun s u => has (val t (2 ^ u)) s) _ (enters_of Try.func52 (by kernel_rfl) rfl) ?_).mono ?_
        · intro W s u hs hu hb3
          exact impl_AngelRelOf1 (val t) _ W (R2.grown hb3) s u hs hu
        rintro e w3 ⟨rfl, hb3⟩
        go_wp2_with fail
        refine (impl_rel_text _ (relT_ok (val t)) _).mono ?_
        rintro e w4 ⟨rfl, hb4⟩
        go_wp2_with fail
        go_ret2
        rw [H4.out]
        exact ⟨rfl, below_step (below_step hb hb3) hb4⟩
      · have H4 : Hid (isRelT (val t) = false) := by
          show isRelT (val t) = false
          have : (val t 0 == 0) = false := by have := H3.out; simpa using this
          unfold isRelT; rw [H2.out, this]; rfl
        go_ret2
        rw [H4.out]
        exact ⟨rfl, hb⟩
end Go.Proofs.Ytfeaeabhnkehcaa
