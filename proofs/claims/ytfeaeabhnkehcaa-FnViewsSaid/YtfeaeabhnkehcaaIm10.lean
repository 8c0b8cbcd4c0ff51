/- Contracts: the program's residuals and simulations. -/
import Derived.Test.YtfeaeabhnkehcaaIm3b
import Derived.Test.YtfeaeabhnkehcaaSp10
namespace Go.Proofs.Ytfeaeabhnkehcaa
set_option linter.unusedVariables false
set_option linter.unusedSimpArgs false
open Go.RowKit Go.Shelf
set_option maxRecDepth 100000
set_option maxHeartbeats 1000000

theorem impl_beforeLeast1 (t u : Nat → Int) (b c : Nat) (w : World) (HT : Row w b 44 16 t) (HU : Row w c 44 16 u) (p : Nat) (_hp : p < 16) :
    Calls Try.prog 120 #[.int .i64 p, .pointer (some ⟨b, 0, none⟩), .pointer (some ⟨c, 0, none⟩)] w fun e w' => e = .returned (.int .i64 (leastT t u p)) ∧ Below w.heap.size w w' := by
  go_enter Try.func120, Try.ntmps120
  go_wp2_with fail
  go_loopw [5, 7] (fun o i wr => ∃ k : Nat, k ≤ 16 ∧ i = .int .i64 k ∧ o = .int .i64 (orf (fun q => bits .andNot .i64 (t q) (p : Int) == 0) u k) ∧ Row wr b 44 16 t ∧ Row wr c 44 16 u ∧ Below w.heap.size w wr) (fun _ i _ => 16 - (intOf i).toNat)
  case atStart => exact ⟨0, by omega, rfl, rfl, HT, HU, Below.refl _ _⟩
  case round =>
    obtain ⟨k, hk, rfl, rfl, HT, HU, hb⟩ := hrel
    by_cases hlt : k < 16
    · have h1 := HT.cell k hlt
      have h2 := HU.cell k hlt
      cases hz : (bits .andNot .i64 (t k) (p : Int) == 0)
      all_goals
        have HZ := Lib.hid hz
        go_wp2_with fail
      · try (go_quiet (fail))
        go_wp2_with fail
        go_roundw
        case rel => exact ⟨k + 1, by omega, by go_num, by simp [orf, HZ.out], HT, HU, hb⟩
        case measure => simp [intOf]; omega
      · try (go_quiet (fail))
        go_wp2_with fail
        go_roundw
        case rel => exact ⟨k + 1, by omega, by go_num, by simp [orf, HZ.out], HT, HU, hb⟩
        case measure => simp [intOf]; omega
    · obtain rfl : k = 16 := by omega
      go_wp2_with fail
      go_ret
      exact ⟨rfl, hb⟩

theorem impl_beforeLeast (t u : Nat → Int) (w : World) :
    Calls Try.prog 79 #[.agg (cs 16 t), .agg (cs 16 u)] w fun e w' => e = .returned (.agg (cs 16 (leastT t u))) ∧ Below w.heap.size w w' := by
  go_enter Try.func79, Try.ntmps79
  go_wp2_with fail
  refine (impl_makeTrans _ _ _ (leastT t u) _ (enters_of Try.func120 (by kernel_rfl) rfl) ?_).mono ?_
  · intro W k hk hb
    exact impl_beforeLeast1 t u _ _ W ((((Row.new w _ 16 t).old _).old _).grown hb) (((Row.newAt (w.alloc _) _ 16 u _ (by simp)).old _).grown hb) k hk
  rintro e w1 ⟨rfl, hb1⟩
  have HR0 : Row w1 (w.heap.size + 2) 44 16 (fun _ => 0) := (Row.zero16 _ _ _ (by simp)).grown hb1
  go_wp2_with (refine wp_store_Row rfl 44 _ _ rfl (w.heap.size + 2) rfl (f := leastT t u) rfl HR0 trans_i ?_)
  refine ret_Row rfl (w.heap.size + 2) rfl (HR0.setRow _) trans_u rfl trans_i rfl ⟨rfl, below_setRow ?_ (by omega) _⟩
  exact below_step (below_new (below_new (below_new (Below.refl _ _) _) _) _) hb1

theorem impl_beforeMost1 (t u : Nat → Int) (b c : Nat) (w : World) (HT : Row w b 44 16 t) (HU : Row w c 44 16 u) (p : Nat) (_hp : p < 16) :
    Calls Try.prog 100 #[.int .i64 p, .pointer (some ⟨b, 0, none⟩), .pointer (some ⟨c, 0, none⟩)] w fun e w' => e = .returned (.int .i64 (mostT t u p)) ∧ Below w.heap.size w w' := by
  go_enter Try.func100, Try.ntmps100
  go_wp2_with fail
  go_loopw [5, 7] (fun o i wr => ∃ k : Nat, k ≤ 16 ∧ i = .int .i64 k ∧ o = .int .i64 (andf (fun q => bits .andNot .i64 (p : Int) (t q) == 0) u k) ∧ Row wr b 44 16 t ∧ Row wr c 44 16 u ∧ Below w.heap.size w wr) (fun _ i _ => 16 - (intOf i).toNat)
  case atStart => exact ⟨0, by omega, rfl, rfl, HT, HU, Below.refl _ _⟩
  case round =>
    obtain ⟨k, hk, rfl, rfl, HT, HU, hb⟩ := hrel
    by_cases hlt : k < 16
    · have h1 := HT.cell k hlt
      have h2 := HU.cell k hlt
      cases hz : (bits .andNot .i64 (p : Int) (t k) == 0)
      all_goals
        have HZ := Lib.hid hz
        go_wp2_with fail
      · try (go_quiet (fail))
        go_wp2_with fail
        go_roundw
        case rel => exact ⟨k + 1, by omega, by go_num, by simp [andf, HZ.out], HT, HU, hb⟩
        case measure => simp [intOf]; omega
      · try (go_quiet (fail))
        go_wp2_with fail
        go_roundw
        case rel => exact ⟨k + 1, by omega, by go_num, by simp [andf, HZ.out], HT, HU, hb⟩
        case measure => simp [intOf]; omega
    · obtain rfl : k = 16 := by omega
      go_wp2_with fail
      go_ret
      exact ⟨rfl, hb⟩

theorem impl_beforeMost (t u : Nat → Int) (w : World) :
    Calls Try.prog 45 #[.agg (cs 16 t), .agg (cs 16 u)] w fun e w' => e = .returned (.agg (cs 16 (mostT t u))) ∧ Below w.heap.size w w' := by
  go_enter Try.func45, Try.ntmps45
  go_wp2_with fail
  refine (impl_makeTrans _ _ _ (mostT t u) _ (enters_of Try.func100 (by kernel_rfl) rfl) ?_).mono ?_
  · intro W k hk hb
    exact impl_beforeMost1 t u _ _ W ((((Row.new w _ 16 t).old _).old _).grown hb) (((Row.newAt (w.alloc _) _ 16 u _ (by simp)).old _).grown hb) k hk
  rintro e w1 ⟨rfl, hb1⟩
  have HR0 : Row w1 (w.heap.size + 2) 44 16 (fun _ => 0) := (Row.zero16 _ _ _ (by simp)).grown hb1
  go_wp2_with (refine wp_store_Row rfl 44 _ _ rfl (w.heap.size + 2) rfl (f := mostT t u) rfl HR0 trans_i ?_)
  refine ret_Row rfl (w.heap.size + 2) rfl (HR0.setRow _) trans_u rfl trans_i rfl ⟨rfl, below_setRow ?_ (by omega) _⟩
  exact below_step (below_new (below_new (below_new (Below.refl _ _) _) _) _) hb1

/-! ### a relation and a transformer -/
/-- in every world that w has grown to, calling g with a relation and a transformer hands back F of them -/
def AsksRT (P : Program) (g : FuncId) (bv lb : Array Value) (F : (Nat → Int) → (Nat → Int) → Nat → Int) (w : World) : Prop :=
  ∀ (W : World) (x y : Nat → Int), Cond x → Cond y → Below w.heap.size w W → Calls P g (bv ++ (#[.agg (cs 4 x), .agg (cs 16 y)] ++ lb)) W fun e W' => e = .returned (.agg (cs 16 (F x y))) ∧ Below W.heap.size W W'

theorem impl_behind1 (r y : Nat → Int) (hr : Cond r) (hy : Cond y) (g : FuncId) (bv lb : Array Value) (F : (Nat → Int) → (Nat → Int) → Nat → Int) (b c : Nat) (w0 w : World) (hw : Below w0.heap.size w0 w)
    (hc : w.cell? ⟨b, 0, none⟩ = some (.func (.func g) bv lb)) (HX : Row w c 53 4 r) (eg : Enters Try.prog g) (hg : AsksRT Try.prog g bv lb F w0) :
    Calls Try.prog 117 #[.agg (cs 16 y), .pointer (some ⟨b, 0, none⟩), .pointer (some ⟨c, 0, none⟩)] w fun e w' => e = .returned (.agg (cs 16 (F r y))) ∧ Below w.heap.size w w' := by
  have eg' : ∀ args w, (callFunc g args).run Try.prog w = .ok (.enter g args) w := eg
  have hc' : ∀ o1 o2, ((w.alloc o1).alloc o2).cell? ⟨b, 0, none⟩ = some (.func (.func g) bv lb) := fun o1 o2 =>
    cell_grown (cell_grown hc (below_new (Below.refl _ _) _)) (below_new (Below.refl _ _) _)
  clear hc
  have R1 : ∀ o2, Row ((w.alloc (.cells (cs 16 y) 44)).alloc o2) w.heap.size 44 16 y := fun o2 => (Row.new w _ 16 y).old _
  have R2 : ∀ o1 o2, Row ((w.alloc o1).alloc o2) c 53 4 r := fun o1 o2 => (HX.old _).old _
  go_enter Try.func117, Try.ntmps117
  go_wp2_with (first
    | (refine wp_load_Row rfl 44 _ rfl w.heap.size rfl (R1 _) trans_u rfl trans_i ?_)
    | (refine wp_load_Row rfl 53 _ rfl c rfl (R2 _ _) rel_u rfl rel_i ?_))
  refine (hg _ r y hr hy (hw.trans ((below_new (below_new (Below.refl _ _) _) _).mono hw.size))).mono ?_
  rintro e w1 ⟨rfl, hb1⟩
  have HR0 : Row w1 (w.heap.size + 1) 44 16 (fun _ => 0) := (Row.zero16 _ _ _ (by simp)).grown hb1
  go_wp2_with (refine wp_store_Row rfl 44 _ _ rfl (w.heap.size + 1) rfl (f := F r y) rfl HR0 trans_i ?_)
  refine ret_Row rfl (w.heap.size + 1) rfl (HR0.setRow _) trans_u rfl trans_i rfl ⟨rfl, below_setRow ?_ (by omega) _⟩
  exact below_step (below_new (below_new (Below.refl _ _) _) _) hb1

theorem impl_behind (r t : ByteArray) (hr : r.size ≤ 4611686018427387904) (ht : t.size ≤ 4611686018427387904) (g : FuncId) (bv lb : Array Value) (F : (Nat → Int) → (Nat → Int) → Nat → Int) (hF : ∀ x y, Cond x → Cond y → Cond (F x y))
    (w : World) (eg : Enters Try.prog g) (hg : AsksRT Try.prog g bv lb F w) :
    Calls Try.prog 72 #[.string r, .string t, .func (.func g) bv lb] w fun e w' => e = .returned (.tuple #[.string (orNone (okTxt 4 r && okTr t) (txt 16 (F (val r) (val t)))), .bool (okTxt 4 r && okTr t)]) ∧ Below w.heap.size w w' := by
  cases h1 : okTxt 4 r
  · have H1 := Lib.hid h1; clear h1
    go_enter Try.func72, Try.ntmps72
    go_wp2_with fail
    refine (impl_readRel _ hr _).mono ?_
    rintro e w1 ⟨rfl, hb1⟩
    rw [H1.out]
    go_wp2_with (refine wp_store_New rfl 53 _ _ rfl rfl (f := tab 4 r) rfl rfl rel_i ?_)
    go_ret2
    exact ⟨rfl, below_new (below_step (below_new (Below.refl _ _) _) hb1) _⟩
  · have H1 := Lib.hid h1; clear h1
    go_enter Try.func72, Try.ntmps72
    go_wp2_with fail
    refine (impl_readRel _ hr _).mono ?_
    rintro e w1 ⟨rfl, hb1⟩
    rw [H1.out, tab_val H1.out]
    go_wp2_with (refine wp_store_New rfl 53 _ _ rfl rfl (f := val r) rfl rfl rel_i ?_)
    refine (impl_alone t ht _ #[] #[.pointer (some ⟨w.heap.size, 0, none⟩), .pointer (some ⟨w1.heap.size, 0, none⟩)] (fun y => F (val r) y) (fun y hy => hF _ y (val_ok r) hy) _ (enters_of Try.func117 (by kernel_rfl) rfl) ?_).mono ?_
    · intro W y hy _ hb
      have hc1 : w1.cell? ⟨w.heap.size, 0, none⟩ = some (.func (.func g) bv lb) := cell_grown (World.cell?_alloc_at _ _ _ _ rfl) hb1
      have hc : W.cell? ⟨w.heap.size, 0, none⟩ = some (.func (.func g) bv lb) := cell_grown (cell_grown hc1 (below_new (Below.refl _ _) _)) hb
      exact impl_behind1 (val r) y (val_ok r) hy g bv lb F _ _ w W (below_step (below_new (below_step (below_new (Below.refl _ _) _) hb1) _) hb) hc ((Row.new w1 _ 4 _).grown hb) eg hg
    rintro e w2 ⟨rfl, hb2⟩
    go_wp2_with fail
    go_ret2
    exact ⟨rfl, below_step (below_new (below_step (below_new (Below.refl _ _) _) hb1) _) hb2⟩

/-- the least concrete one that simulates -/
def concT (r t : Nat → Int) : Nat → Int := leastT (angelT r) (thenT (angelT r) t)
theorem concT_ok (r t : Nat → Int) : Cond (concT r t) := leastT_ok (thenT_ok (angelT_ok r) t)

theorem impl_ConcreteLeast1 (r t : Nat → Int) (ht : Cond t) (w : World) :
    Calls Try.prog 78 #[.agg (cs 4 r), .agg (cs 16 t)] w fun e w' => e = .returned (.agg (cs 16 (concT r t))) ∧ Below w.heap.size w w' := by
  go_enter Try.func78, Try.ntmps78
  go_wp2_with fail
  rw [← cs16_zero]
  obtain ⟨W, HX, HT, HZ, hb, hW⟩ : ∃ W, Row W w.heap.size 53 4 r ∧ Row W (w.heap.size + 1) 44 16 t ∧ Row W (w.heap.size + 1 + 1) 44 16 (fun _ => 0) ∧ Below w.heap.size w W ∧ ((w.alloc (.cells (cs 4 r) 53)).alloc (.cells (cs 16 t) 44)).alloc (.cells (cs 16 fun _ => 0) 44) = W :=
    ⟨_, ((Row.new w _ 4 r).old _).old _, (Row.newAt (w.alloc _) _ 16 t _ (by simp)).old _, Row.newAt ((w.alloc _).alloc _) _ 16 _ _ (by simp), below_new (below_new (below_new (Below.refl _ _) _) _) _, rfl⟩
  rw [hW]; clear hW
  refine wp_region_held_drew (S := fun W => Row W w.heap.size 53 4 r ∧ Row W (w.heap.size + 1) 44 16 t ∧ ∃ f, Row W (w.heap.size + 1 + 1) 44 16 f) (by kernel_rfl) ?_ (fun hS => ?_)
  · exact ⟨HX.drew, HT.drew, _, HZ.drew⟩
  refine wpAnyH_take (i := 0) (v := .agg (cs 4 (r))) rfl (by kernel_rfl) (by kernel_rfl) (by kernel_rfl) (fun _ _ _ h => h) (yields_Row (by rfl) _ _ rfl (w.heap.size) rfl (fun _ h => h.1) rel_u rfl rel_i) hS ?_
  simp only [Act.put, List.getElem_toArray, List.getElem_cons_succ, List.getElem_cons_zero, List.setIfInBounds_toArray, List.set_cons_zero, List.set_cons_succ]
  refine wpAnyH_take (i := 2) (v := .agg (cs 4 (r))) rfl (by kernel_rfl) (by kernel_rfl) (by kernel_rfl) (fun _ _ _ h => h) (yields_Row (by rfl) _ _ rfl (w.heap.size) rfl (fun _ h => h.1) rel_u rfl rel_i) hS ?_
  simp only [Act.put, List.getElem_toArray, List.getElem_cons_succ, List.getElem_cons_zero, List.setIfInBounds_toArray, List.set_cons_zero, List.set_cons_succ]
  refine wpAnyH_take (i := 4) (v := .agg (cs 16 (t))) rfl (by kernel_rfl) (by kernel_rfl) (by kernel_rfl) (fun _ _ _ h => h) (yields_Row (by rfl) _ _ rfl (w.heap.size + 1) rfl (fun _ h => h.2.1) trans_u rfl trans_i) hS ?_
  simp only [Act.put, List.getElem_toArray, List.getElem_cons_succ, List.getElem_cons_zero, List.setIfInBounds_toArray, List.set_cons_zero, List.set_cons_succ]
  refine wpAnyH_ready (rs := [1]) (by kernel_rfl) (by simp) ?_
  refine AllReadyH.cons rfl (fun K hK => ?_) AllReadyH.nil
  rw [if_pos (by rfl)]
  refine op_call 61 _ _ rfl (enters_of Try.func61 (by kernel_rfl) rfl) _ (impl_angel r _) rfl ?_
  rintro e w1 ⟨rfl, hb1⟩
  refine ⟨_, rfl, ?_⟩
  refine hK.out _ _ ?_ (fun hS1 => ?_)
  · exact ⟨hS.1.grown hb1, hS.2.1.grown hb1, _, hS.2.2.choose_spec.grown hb1⟩
  clear hK K
  replace hS := hS1
  clear hS1
  simp only [Act.put, List.getElem_toArray, List.getElem_cons_succ, List.getElem_cons_zero, List.setIfInBounds_toArray, List.set_cons_zero, List.set_cons_succ]
  refine wpAnyH_ready (rs := [3]) (by kernel_rfl) (by simp) ?_
  refine AllReadyH.cons rfl (fun K hK => ?_) AllReadyH.nil
  rw [if_pos (by rfl)]
  refine op_call 61 _ _ rfl (enters_of Try.func61 (by kernel_rfl) rfl) _ (impl_angel r _) rfl ?_
  rintro e w2 ⟨rfl, hb2⟩
  refine ⟨_, rfl, ?_⟩
  refine hK.out _ _ ?_ (fun hS1 => ?_)
  · exact ⟨hS.1.grown hb2, hS.2.1.grown hb2, _, hS.2.2.choose_spec.grown hb2⟩
  clear hK K
  replace hS := hS1
  clear hS1
  simp only [Act.put, List.getElem_toArray, List.getElem_cons_succ, List.getElem_cons_zero, List.setIfInBounds_toArray, List.set_cons_zero, List.set_cons_succ]
  refine wpAnyH_ready (rs := [5]) (by kernel_rfl) (by simp) ?_
  refine AllReadyH.cons rfl (fun K hK => ?_) AllReadyH.nil
  rw [if_pos (by rfl)]
  refine op_call 65 _ _ rfl (enters_of Try.func65 (by kernel_rfl) rfl) _ (impl_then _ _ ht _) rfl ?_
  rintro e w3 ⟨rfl, hb3⟩
  refine ⟨_, rfl, ?_⟩
  refine hK.out _ _ ?_ (fun hS1 => ?_)
  · exact ⟨hS.1.grown hb3, hS.2.1.grown hb3, _, hS.2.2.choose_spec.grown hb3⟩
  clear hK K
  replace hS := hS1
  clear hS1
  simp only [Act.put, List.getElem_toArray, List.getElem_cons_succ, List.getElem_cons_zero, List.setIfInBounds_toArray, List.set_cons_zero, List.set_cons_succ]
  refine wpAnyH_ready (rs := [6]) (by kernel_rfl) (by simp) ?_
  refine AllReadyH.cons rfl (fun K hK => ?_) AllReadyH.nil
  rw [if_pos (by rfl)]
  refine op_call 79 _ _ rfl (enters_of Try.func79 (by kernel_rfl) rfl) _ (impl_beforeLeast _ _ _) rfl ?_
  rintro e w4 ⟨rfl, hb4⟩
  refine ⟨_, rfl, ?_⟩
  refine hK.out _ _ ?_ (fun hS1 => ?_)
  · exact ⟨hS.1.grown hb4, hS.2.1.grown hb4, _, hS.2.2.choose_spec.grown hb4⟩
  clear hK K
  replace hS := hS1
  clear hS1
  simp only [Act.put, List.getElem_toArray, List.getElem_cons_succ, List.getElem_cons_zero, List.setIfInBounds_toArray, List.set_cons_zero, List.set_cons_succ]
  have hS0 := hS
  refine wpAnyH_ready (rs := [7]) (by kernel_rfl) (by simp) ?_
  refine AllReadyH.cons rfl (fun K hK => ?_) AllReadyH.nil
  rw [if_pos (by rfl)]
  refine op_store_Row _ _ _ rfl (w.heap.size + 1 + 1) rfl (n := 16) (f := concT r t) rfl hS.2.2.choose_spec trans_i ?_
  refine hK.out _ _ ?_ (fun hS1 => ?_)
  · exact ⟨hS.1.setRowOther _ _ (by omega), hS.2.1.setRowOther _ _ (by omega), _, hS.2.2.choose_spec.setRow _⟩
  clear hK K
  replace hS := hS1
  clear hS1
  simp only [Act.put, List.getElem_toArray, List.getElem_cons_succ, List.getElem_cons_zero, List.setIfInBounds_toArray, List.set_cons_zero, List.set_cons_succ]
  refine wpAnyH_done (by kernel_rfl) ?_ _
  go_wp2_with fail
  refine ret_Row rfl (w.heap.size + 1 + 1) rfl (hS0.2.2.choose_spec.setRow _) trans_u rfl trans_i rfl ⟨rfl, below_setRow ?_ (by omega) _⟩
  exact below_step (below_step (below_step (below_step hb.drew hb1) hb2) hb3) hb4

theorem impl_ConcreteLeast (r t : ByteArray) (hr : r.size ≤ 4611686018427387904) (ht : t.size ≤ 4611686018427387904) (w : World) :
    Calls Try.prog 28 #[.string r, .string t] w fun e w' => e = .returned (.tuple #[.string (orNone (okTxt 4 r && okTr t) (txt 16 (concT (val r) (val t)))), .bool (okTxt 4 r && okTr t)]) ∧ Below w.heap.size w w' := by
  go_enter Try.func28, Try.ntmps28
  go_wp2_with fail
  refine (impl_behind r t hr ht _ #[] #[] concT (fun x y _ _ => concT_ok x y) _ (enters_of Try.func78 (by kernel_rfl) rfl) ?_).mono ?_
  · intro W x y hx hy hb
    exact impl_ConcreteLeast1 x y hy W
  rintro e w1 ⟨rfl, hb1⟩
  go_wp2_with fail
  go_ret2
  exact ⟨rfl, hb1⟩

/-- a whole row is read where a guard lets by -/
theorem wp_load_RowG {P : Program} {ops : Array Oper} {rest : List Oper} {o : Oper} {a : Act} {w : World} {Q : Exit → Act → World → Prop} (hw : Region.wanted o (yielded ops a.tmps) = true) (ty : TypeId) (x : Operand) (ho : o.op = .load ty x) (g : Nat) (hx : a.eval x = .pointer (some ⟨g, 0, none⟩)) {t : TypeId} {n : Nat} {f : Nat → Int} {d : TypeDesc}
    (hg : Row w g t n f) (hu : P.underlying ty = some d) (hd : (match d with | .struct _ | .array _ _ => true | _ => false) = true) (hi : (P.info? ty).map (·.size) = some n)
    (h : wpList P ops Q rest (a.put o.dst (.agg (cs n f))) w) : wpList P ops Q (o :: rest) a w := by
  unfold wpList
  rw [if_pos hw]
  exact Or.inl (wp_load_row ty x ho g hx t (cs n f) (0, 0) d hg.eq hu hd (by rw [cs_size]; exact hi) h)

theorem impl_SimulatesForward (r t u : ByteArray) (hr : r.size ≤ 4611686018427387904) (ht : t.size ≤ 4611686018427387904) (hu : u.size ≤ 4611686018427387904) (w : World) :
    Calls Try.prog 27 #[.string r, .string t, .string u] w fun e w' => e = .returned (.bool (okTxt 4 r && (okTr t && okTr u) && fwdT (val r) (val t) (val u))) ∧ Below w.heap.size w w' := by
  cases h1 : okTxt 4 r <;> cases h2 : okTr t <;> cases h3 : okTr u
  all_goals
    have H1 := Lib.hid h1; clear h1
    have H2 := Lib.hid h2; clear h2
    have H3 := Lib.hid h3; clear h3
    go_enter Try.func27, Try.ntmps27
    go_wp2_with fail
    refine (impl_readRel _ hr _).mono ?_
    rintro e w1 ⟨rfl, hb1⟩
    rw [H1.out]
    go_wp2_with (refine wp_store_New rfl 53 _ _ rfl rfl (f := tab 4 r) rfl rfl rel_i ?_)
    refine (impl_readTrans _ ht _).mono ?_
    rintro e w2 ⟨rfl, hb2⟩
    rw [H2.out]
    go_wp2_with (refine wp_store_New rfl 44 _ _ rfl rfl (f := tabT t) rfl rfl trans_i ?_)
    refine (impl_readTrans _ hu _).mono ?_
    rintro e w3 ⟨rfl, hb3⟩
    rw [H3.out]
    have R1 : Row (w3.alloc (.cells (cs 16 (tabT u)) 44)) w1.heap.size 53 4 (tab 4 r) := ((((Row.new w1 _ 4 _).grown hb2).old _).grown hb3).old _
    have R2 : Row (w3.alloc (.cells (cs 16 (tabT u)) 44)) w2.heap.size 44 16 (tabT t) := ((Row.new w2 _ 16 _).grown hb3).old _
    have R3 : Row (w3.alloc (.cells (cs 16 (tabT u)) 44)) w3.heap.size 44 16 (tabT u) := Row.new w3 _ 16 _
    have hb := below_new (below_step (below_new (below_step (below_new hb1 (.cells (cs 4 (tab 4 r)) 53)) hb2) (.cells (cs 16 (tabT t)) 44)) hb3) (.cells (cs 16 (tabT u)) 44)
    go_wp2_with (first
      | (refine wp_store_New rfl 44 _ _ rfl rfl (f := tabT u) rfl rfl trans_i ?_)
      | (refine wp_load_RowG (by rfl) 53 _ rfl w1.heap.size rfl R1 rel_u rfl rel_i ?_)
      | (refine wp_load_RowG (by rfl) 44 _ rfl w2.heap.size rfl R2 trans_u rfl trans_i ?_)
      | (refine wp_load_RowG (by rfl) 44 _ rfl w3.heap.size rfl R3 trans_u rfl trans_i ?_))
  iterate 7
    · go_ret
      exact ⟨rfl, hb⟩
  · refine (impl_forward _ _ _ (tabT_ok t) (tabT_ok u) _).mono ?_
    rintro e w4 ⟨rfl, hb4⟩
    go_wp2_with fail
    go_ret
    refine ⟨?_, below_step hb hb4⟩
    rw [tab_val H1.out, tabT_val H2.out, tabT_val H3.out]; rfl
end Go.Proofs.Ytfeaeabhnkehcaa
