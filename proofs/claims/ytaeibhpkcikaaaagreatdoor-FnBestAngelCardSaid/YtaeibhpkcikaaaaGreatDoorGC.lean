/- Contracts: the program's functions on transformers, first part. -/
import Derived.Test.YtaeibhpkcikaaaaGreatDoorGB
import Derived.Deep.RegionHeld3
/- Im3 -/
namespace Go.Proofs.YtaeibhpkcikaaaaGreatDoor
set_option linter.unusedVariables false
set_option linter.unusedSimpArgs false
open Go.RowKit Go.Shelf
set_option maxRecDepth 100000
set_option maxHeartbeats 1000000

theorem trans_u : Tryz.prog.underlying 95 = some (.array 16 3) := Tryz.underlying95
theorem trans_i : (Tryz.prog.info? 95).map (·.size) = some 16 := by kernel_rfl

theorem impl_makeTrans (g : FuncId) (bv lb : Array Value) (f : Nat → Int) (w : World) (eg : Enters Tryz.prog g) (hg : AsksI Tryz.prog g bv lb 16 f w) :
    Calls Tryz.prog 87 #[.func (.func g) bv lb] w fun e w' => e = .returned (.agg (cs 16 f)) ∧ Below w.heap.size w w' := by
  have eg' : ∀ args w, (callFunc g args).run Tryz.prog w = .ok (.enter g args) w := eg
  go_enter Tryz.func87, Tryz.ntmps87
  go_wp2_with fail
  rw [← cs16_zero]
  go_loopw [6] (fun i wr => ∃ (k : Nat) (h : Nat → Int), k ≤ 16 ∧ i = .int .i64 k ∧ Hid (∀ j, j < k → h j = f j) ∧ Row wr (w.heap.size + 1) 95 16 h ∧ Row wr w.heap.size 95 16 (fun _ => 0) ∧ Below w.heap.size w wr) (fun i _ => 16 - (intOf i).toNat)
  case atStart => exact ⟨0, fun _ => 0, by omega, rfl, fun j hj => by omega, ⟨heap_alloc2_new _ _ _⟩, ⟨heap_alloc2_old _ _ _⟩, ((Below.refl _ _).alloc (Nat.le_refl _) _).alloc (by simp) _⟩
  case round =>
    obtain ⟨k, h, hk, rfl, H, HR, HR0, hb⟩ := hrel
    by_cases hlt : k < 16
    · go_wp2_with fail
      refine (hg _ k hlt hb).mono ?_
      rintro e w1 ⟨rfl, hb1⟩
      have hc := (HR.grown hb1).cell k hlt
      have hf := (HR.grown hb1).free k
      go_wp2_with fail
      go_roundw
      case rel => exact ⟨k + 1, upd h k (f k), by omega, by go_num, fun j hj => by
        rcases Nat.lt_or_ge j k with hj | hj
        · rw [upd_other _ _ _ _ (by omega)]; exact H.out j hj
        · obtain rfl : j = k := by omega
          rw [upd_same], (HR.grown hb1).set k _, (HR0.grown hb1).setAt _ _ _ (by omega), below_setAt (below_step hb hb1) _ _ (by omega) _⟩
      case measure => simp [intOf]; omega
    · obtain rfl : k = 16 := by omega
      go_wp2_with (first
        | (refine wp_load_Row rfl 95 _ rfl (w.heap.size + 1) rfl HR trans_u rfl trans_i ?_)
        | (refine wp_store_Row rfl 95 _ _ rfl w.heap.size rfl (f := h) rfl HR0 trans_i ?_))
      refine ret_Row rfl w.heap.size rfl (HR0.setRow _) trans_u rfl trans_i rfl ⟨?_, below_setRow hb (Nat.le_refl _) _⟩
      exact ret_agg (cs_ext fun j hj => H.out j hj)

/-! ### reading a transformer -/
end Go.Proofs.YtaeibhpkcikaaaaGreatDoor

/- Im3b -/
namespace Go.Proofs.YtaeibhpkcikaaaaGreatDoor
set_option linter.unusedVariables false
set_option linter.unusedSimpArgs false
open Go.RowKit Go.Shelf
set_option maxRecDepth 100000
set_option maxHeartbeats 1000000

theorem impl_then1 (t u : Nat → Int) (hu : Cond u) (b c : Nat) (w : World) (HT : Row w b 95 16 t) (HU : Row w c 95 16 u) (k : Nat) (hk : k < 16) :
    Calls Tryz.prog 115 #[.int .i64 k, .pointer (some ⟨b, 0, none⟩), .pointer (some ⟨c, 0, none⟩)] w fun e w' => e = .returned (.int .i64 (thenT t u k)) ∧ Below w.heap.size w w' := by
  have h0 := hu k
  have h1 := HU.cell k hk
  have h2 := HT.cell (u k).toNat (by omega)
  obtain ⟨h3, h4⟩ := h0
  go_enter Tryz.func115, Tryz.ntmps115
  go_wp2_with fail
  go_ret
  exact ⟨rfl, Below.refl _ _⟩

theorem impl_then (t u : Nat → Int) (hu : Cond u) (w : World) :
    Calls Tryz.prog 95 #[.agg (cs 16 t), .agg (cs 16 u)] w fun e w' => e = .returned (.agg (cs 16 (thenT t u))) ∧ Below w.heap.size w w' := by
  go_enter Tryz.func95, Tryz.ntmps95
  go_wp2_with fail
  refine (impl_makeTrans _ _ _ (thenT t u) _ (enters_of Tryz.func115 (by kernel_rfl) rfl) ?_).mono ?_
  · intro W k hk hb
    exact impl_then1 t u hu _ _ W ((((Row.new w _ 16 t).old _).old _).grown hb) (((Row.newAt (w.alloc _) _ 16 u _ (by simp)).old _).grown hb) k hk
  rintro e w1 ⟨rfl, hb1⟩
  have HR0 : Row w1 (w.heap.size + 2) 95 16 (fun _ => 0) := (Row.zero16 _ _ _ (by simp)).grown hb1
  go_wp2_with (refine wp_store_Row rfl 95 _ _ rfl (w.heap.size + 2) rfl (f := thenT t u) rfl HR0 trans_i ?_)
  refine ret_Row rfl (w.heap.size + 2) rfl (HR0.setRow _) trans_u rfl trans_i rfl ⟨rfl, below_setRow ?_ (by omega) _⟩
  exact below_step (below_new (below_new (below_new (Below.refl _ _) _) _) _) hb1

theorem impl_assert1 (p : Int) (b : Nat) (w : World) (hc : w.cell? ⟨b, 0, none⟩ = some (.int .i64 p)) (k : Nat) :
    Calls Tryz.prog 111 #[.int .i64 k, .pointer (some ⟨b, 0, none⟩)] w fun e w' => e = .returned (.int .i64 (assertT p k)) ∧ Below w.heap.size w w' := by
  go_enter Tryz.func111, Tryz.ntmps111
  go_wp2_with fail
  go_ret
  exact ⟨rfl, Below.refl _ _⟩

theorem impl_assert (p : Int) (w : World) :
    Calls Tryz.prog 83 #[.int .i64 p] w fun e w' => e = .returned (.agg (cs 16 (assertT p))) ∧ Below w.heap.size w w' := by
  go_enter Tryz.func83, Tryz.ntmps83
  go_wp2_with fail
  refine (impl_makeTrans _ _ _ (assertT p) _ (enters_of Tryz.func111 (by kernel_rfl) rfl) ?_).mono ?_
  · intro W k hk hb
    exact impl_assert1 p _ W ((hb.cell (p := ⟨w.heap.size, 0, none⟩) (by simp; omega)).trans ((World.cell?_alloc_past _ _ _ (by simp)).trans (World.cell?_alloc_at _ _ _ _ rfl))) k
  rintro e w1 ⟨rfl, hb1⟩
  have HR0 : Row w1 (w.heap.size + 1) 95 16 (fun _ => 0) := (Row.zero16 _ _ _ (by simp)).grown hb1
  go_wp2_with (refine wp_store_Row rfl 95 _ _ rfl (w.heap.size + 1) rfl (f := assertT p) rfl HR0 trans_i ?_)
  refine ret_Row rfl (w.heap.size + 1) rfl (HR0.setRow _) trans_u rfl trans_i rfl ⟨rfl, below_setRow ?_ (by omega) _⟩
  exact below_step (below_new (below_new (Below.refl _ _) _) _) hb1

theorem impl_angel (r : Nat → Int) (w : World) :
    Calls Tryz.prog 85 #[.agg (cs 4 r)] w fun e w' => e = .returned (.agg (cs 16 (angelT r))) ∧ Below w.heap.size w w' := by
  have R1 := fun o => (Row.new w 82 4 r).old o
  go_enter Tryz.func85, Tryz.ntmps85
  go_wp2_with (refine wp_load_Row rfl 82 _ rfl w.heap.size rfl (R1 _) rel_u rfl rel_i ?_)
  refine (impl_makeTrans _ _ _ (angelT r) _ (enters_of Tryz.func113 (by kernel_rfl) rfl) ?_).mono ?_
  · intro W k hk hb
    exact impl_diamond r k W
  rintro e w1 ⟨rfl, hb1⟩
  have HR0 : Row w1 (w.heap.size + 1) 95 16 (fun _ => 0) := (Row.zero16 _ _ _ (by simp)).grown hb1
  go_wp2_with (refine wp_store_Row rfl 95 _ _ rfl (w.heap.size + 1) rfl (f := angelT r) rfl HR0 trans_i ?_)
  refine ret_Row rfl (w.heap.size + 1) rfl (HR0.setRow _) trans_u rfl trans_i rfl ⟨rfl, below_setRow ?_ (by omega) _⟩
  exact below_step (below_new (below_new (Below.refl _ _) _) _) hb1

theorem impl_demon (r : Nat → Int) (w : World) :
    Calls Tryz.prog 86 #[.agg (cs 4 r)] w fun e w' => e = .returned (.agg (cs 16 (demonT r))) ∧ Below w.heap.size w w' := by
  have R1 := fun o => (Row.new w 82 4 r).old o
  go_enter Tryz.func86, Tryz.ntmps86
  go_wp2_with (refine wp_load_Row rfl 82 _ rfl w.heap.size rfl (R1 _) rel_u rfl rel_i ?_)
  refine (impl_makeTrans _ _ _ (demonT r) _ (enters_of Tryz.func114 (by kernel_rfl) rfl) ?_).mono ?_
  · intro W k hk hb
    exact impl_box r k W
  rintro e w1 ⟨rfl, hb1⟩
  have HR0 : Row w1 (w.heap.size + 1) 95 16 (fun _ => 0) := (Row.zero16 _ _ _ (by simp)).grown hb1
  go_wp2_with (refine wp_store_Row rfl 95 _ _ rfl (w.heap.size + 1) rfl (f := demonT r) rfl HR0 trans_i ?_)
  refine ret_Row rfl (w.heap.size + 1) rfl (HR0.setRow _) trans_u rfl trans_i rfl ⟨rfl, below_setRow ?_ (by omega) _⟩
  exact below_step (below_new (below_new (Below.refl _ _) _) _) hb1

theorem cell_grown {w w' : World} {a : Addr} {v : Value} (h : w.cell? a = some v) (hb : Below w.heap.size w w') : w'.cell? a = some v := (hb.cell (block_lt_of_cell h)).trans h

/-! ### what a drawn region reads -/
theorem yields_Row {P : Program} {ops : Array Oper} {S : World → Prop} {op : Oper} {a : Act} (hw : Region.wanted op (yielded ops a.tmps) = true) (ty : TypeId) (x : Operand) (ho : op.op = .load ty x)
    (b : Nat) (hx : a.eval x = .pointer (some ⟨b, 0, none⟩)) {t : TypeId} {n : Nat} {f : Nat → Int} {d : TypeDesc} (hS : ∀ w, S w → Row w b t n f)
    (hu : P.underlying ty = some d) (hd : (match d with | .struct _ | .array _ _ => true | _ => false) = true) (hi : (P.info? ty).map (·.size) = some n) : YieldsIf P ops S op (.agg (cs n f)) a :=
  .inl ⟨hw, fun w hw' => by
    unfold execOp
    simp only [ho, hx, Instr.loadAt, Instr.sureAddr, Sem.run_bind, Sem.run_pure, Result.andThen_ok, run_loadVar_row w b t ty (cs n f) (0, 0) d (hS w hw').eq hu hd (by rw [cs_size]; exact hi)]⟩
theorem op_store_Row {P : Program} {o : Oper} {a : Act} {w : World} {K : Act → World → Prop} {Q : Exit → Act → World → Prop} (ty : TypeId) (x y : Operand) (ho : o.op = .store ty x y)
    (g : Nat) (hx : a.eval x = .pointer (some ⟨g, 0, none⟩)) {n : Nat} {f : Nat → Int} (hy : a.eval y = .agg (cs n f)) {t : TypeId} {f0 : Nat → Int}
    (hg : Row w g t n f0) (hi : (P.info? ty).map (·.size) = some n)
    (h : K (a.put o.dst undef) (w.setRow g (cs n f))) : o.wp P a w K Q :=
  wp_store_row ty x y ho g (cs n f) hx hy t (cs n f0) hg.eq (by rw [cs_size]; exact hi) (by rw [cs_size, cs_size]) (cs_one n f) h

theorem op_call {P : Program} {o : Oper} {a : Act} {w : World} {K : Act → World → Prop} {Q : Exit → Act → World → Prop} (f : FuncId) (xs : Array Operand) (ts : Array TypeId)
    (ho : o.op = .call { callee := .value (.func f), args := xs, argTypes := ts }) (he : Enters P f) (args : Array Value) {R : Ending → World → Prop} (h : Calls P f args w R) (hargs0 : xs.toList.map a.eval = args.toList)
    (hk : ∀ e w', R e w' → ∃ v, e = .returned v ∧ K (a.put o.dst v) w') : o.wp P a w K Q := by
  have hargs : xs.map a.eval = args := by apply Array.ext'; rw [Array.toList_map]; exact hargs0
  unfold Oper.wp execOp
  have he' := fun args w => he args w
  simp only [ho]
  simp [go_sem, hargs, he']
  refine h.mono fun e w' hr => ?_
  obtain ⟨v, rfl, hK⟩ := hk e w' hr
  unfold Act.put at hK
  exact hK

/-! ### texts handed on -/
/-- in every world that w has grown to, calling g with two transformers hands back F of them -/
def AsksTT (P : Program) (g : FuncId) (bv lb : Array Value) (F : (Nat → Int) → (Nat → Int) → Nat → Int) (w : World) : Prop :=
  ∀ (W : World) (x y : Nat → Int), Cond x → Cond y → mono x = true → mono y = true → Below w.heap.size w W → Calls P g (bv ++ (#[.agg (cs 16 x), .agg (cs 16 y)] ++ lb)) W fun e W' => e = .returned (.agg (cs 16 (F x y))) ∧ Below W.heap.size W W'
/-- .. with one .. -/
def AsksT (P : Program) (g : FuncId) (bv lb : Array Value) (F : (Nat → Int) → Nat → Int) (w : World) : Prop :=
  ∀ (W : World) (x : Nat → Int), Cond x → mono x = true → Below w.heap.size w W → Calls P g (bv.push (.agg (cs 16 x)) ++ lb) W fun e W' => e = .returned (.agg (cs 16 (F x))) ∧ Below W.heap.size W W'

theorem tabT_mono {s : ByteArray} (h : okTr s = true) : mono (tabT s) = true := by rw [tabT_val h]; exact okTr_mono h

end Go.Proofs.YtaeibhpkcikaaaaGreatDoor
