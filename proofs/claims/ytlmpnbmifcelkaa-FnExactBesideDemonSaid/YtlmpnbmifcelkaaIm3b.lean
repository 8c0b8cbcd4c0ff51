/- Contracts: the program's functions on transformers, second part. -/
import Derived.Test.YtlmpnbmifcelkaaIm3
import Derived.Deep.RegionHeld3
namespace Go.Proofs.Ytlmpnbmifcelkaa
open Go.RowKit Go.Shelf
set_option maxRecDepth 100000
set_option maxHeartbeats 1000000

theorem impl_dual1 (t : Nat → Int) (b : Nat) (w : World) (HT : Row w b 32 16 t) (k : Nat) (hk : k < 16) :
    Calls Try.prog 28 #[.int .i64 k, .pointer (some ⟨b, 0, none⟩)] w fun e w' => e = .returned (.int .i64 (dualT t k)) ∧ Below w.heap.size w w' := by
  have hc : C (k : Int) := ⟨by omega, by omega⟩
  have h0 : C (bits .andNot .i64 15 (k : Int)) := notp_ok hc
  obtain ⟨h3, h4⟩ := h0
  have h2 := HT.cell (bits .andNot .i64 15 (k : Int)).toNat (by omega)
  clear hc
  go_enter Try.func28, Try.ntmps28
  go_wp2_with fail
  go_ret
  exact ⟨rfl, Below.refl _ _⟩

theorem impl_dual (t : Nat → Int) (w : World) :
    Calls Try.prog 16 #[.agg (cs 16 t)] w fun e w' => e = .returned (.agg (cs 16 (dualT t))) ∧ Below w.heap.size w w' := by
  go_enter Try.func16, Try.ntmps16
  go_wp2_with fail
  refine (impl_makeTrans _ _ _ (dualT t) _ (enters_of Try.func28 (by kernel_rfl) rfl) ?_).mono ?_
  · intro W k hk hb
    exact impl_dual1 t _ W (((Row.new w _ 16 t).old _).grown hb) k hk
  rintro e w1 ⟨rfl, hb1⟩
  have HR0 : Row w1 (w.heap.size + 1) 32 16 (fun _ => 0) := (Row.zero16 _ _ _ (by simp)).grown hb1
  go_wp2_with (refine wp_store_Row rfl 32 _ _ rfl (w.heap.size + 1) rfl (f := dualT t) rfl HR0 trans_i ?_)
  refine ret_Row rfl (w.heap.size + 1) rfl (HR0.setRow _) trans_u rfl trans_i rfl ⟨rfl, below_setRow ?_ (by omega) _⟩
  exact below_step (below_new (below_new (Below.refl _ _) _) _) hb1

theorem cell_grown {w w' : World} {a : Addr} {v : Value} (h : w.cell? a = some v) (hb : Below w.heap.size w w') : w'.cell? a = some v := (hb.cell (block_lt_of_cell h)).trans h

/-! ### what a drawn region reads -/
theorem yields_Row {P : Program} {ops : Array Oper} {S : World → Prop} {op : Oper} {a : Act} (hw : Region.wanted op (yielded ops a.tmps) = true) (ty : TypeId) (x : Operand) (ho : op.op = .load ty x)
    (b : Nat) (hx : a.eval x = .pointer (some ⟨b, 0, none⟩)) {t : TypeId} {n : Nat} {f : Nat → Int} {d : TypeDesc} (hS : ∀ w, S w → Row w b t n f)
    (hu : P.underlying ty = some d) (hd : (match d with | .struct _ | .array _ _ => true | _ => false) = true) (hi : (P.info? ty).map (·.size) = some n) : YieldsIf P ops S op (.agg (cs n f)) a :=
  .inl ⟨hw, fun w hw' => by
    unfold execOp
    simp only [ho, hx, Instr.loadAt, Instr.sureAddr, Sem.run_bind, Sem.run_pure, Result.andThen_ok, run_loadVar_row w b t ty (cs n f) (0, 0) d (hS w hw').eq hu hd (by rw [cs_size]; exact hi)]⟩
theorem op_store_Row {P : Program} {o : Oper} {a : Act} {w : World} {K : Act → World → Prop} {Q : Exit → Act → World → Prop} (ty : TypeId) (x y : Operand) (ho : o.op = .store ty x y)
    (g : Nat) (hx : a.eval x = .pointer (some ⟨g, 0, none⟩)) {n : Nat} {f : Nat → Int} (hy : a.eval y = .agg (cs n f)) {t : TypeId} {f0 : Nat → Int}
    (hg : Row w g t n f0) (hi : (P.info? ty).map (·.size) = some n)
    (h : K (a.put o.dst undef) (w.setRow g (cs n f))) : o.wp P a w K Q :=
  wp_store_row ty x y ho g (cs n f) hx hy t (cs n f0) hg.eq (by rw [cs_size]; exact hi) (by rw [cs_size, cs_size]) (cs_one n f) h

theorem op_call {P : Program} {o : Oper} {a : Act} {w : World} {K : Act → World → Prop} {Q : Exit → Act → World → Prop} (f : FuncId) (xs : Array Operand) (ts : Array TypeId)
    (ho : o.op = .call { callee := .value (.func f), args := xs, argTypes := ts }) (he : Enters P f) (args : Array Value) {R : Ending → World → Prop} (h : Calls P f args w R) (hargs0 : xs.toList.map a.eval = args.toList)
    (hk : ∀ e w', R e w' → ∃ v, e = .returned v ∧ K (a.put o.dst v) w') : o.wp P a w K Q := by
  have hargs : xs.map a.eval = args := by apply Array.ext'; rw [Array.toList_map]; exact hargs0
  unfold Oper.wp execOp
  have he' := fun args w => he args w
  simp only [ho]
  simp [go_sem, hargs, he']
  refine h.mono fun e w' hr => ?_
  obtain ⟨v, rfl, hK⟩ := hk e w' hr
  unfold Act.put at hK
  exact hK

/-! ### texts handed on -/
/-- in every world that w has grown to, calling g with two transformers hands back F of them -/
def AsksTT (P : Program) (g : FuncId) (bv lb : Array Value) (F : (Nat → Int) → (Nat → Int) → Nat → Int) (w : World) : Prop :=
  ∀ (W : World) (x y : Nat → Int), Cond x → Cond y → Below w.heap.size w W → Calls P g (bv ++ (#[.agg (cs 16 x), .agg (cs 16 y)] ++ lb)) W fun e W' => e = .returned (.agg (cs 16 (F x y))) ∧ Below W.heap.size W W'
/-- .. with one .. -/
def AsksT (P : Program) (g : FuncId) (bv lb : Array Value) (F : (Nat → Int) → Nat → Int) (w : World) : Prop :=
  ∀ (W : World) (x : Nat → Int), Cond x → Below w.heap.size w W → Calls P g (bv.push (.agg (cs 16 x)) ++ lb) W fun e W' => e = .returned (.agg (cs 16 (F x))) ∧ Below W.heap.size W W'

theorem impl_both (t u : ByteArray) (ht : t.size ≤ 4611686018427387904) (hu : u.size ≤ 4611686018427387904) (g : FuncId) (bv lb : Array Value) (F : (Nat → Int) → (Nat → Int) → Nat → Int) (hF : ∀ x y, Cond x → Cond y → Cond (F x y))
    (w : World) (eg : Enters Try.prog g) (hg : AsksTT Try.prog g bv lb F w) :
    Calls Try.prog 12 #[.string t, .string u, .func (.func g) bv lb] w fun e w' => e = .returned (.tuple #[.string (orNone (okTr t && okTr u) (txt 16 (F (val t) (val u)))), .bool (okTr t && okTr u)]) ∧ Below w.heap.size w w' := by
  have eg' : ∀ args w, (callFunc g args).run Try.prog w = .ok (.enter g args) w := eg
  cases h1 : okTr t <;> cases h2 : okTr u
  all_goals
    have H1 := Lib.hid h1; clear h1
    have H2 := Lib.hid h2; clear h2
    go_enter Try.func12, Try.ntmps12
    go_wp2_with fail
    refine (impl_readTrans _ ht _).mono ?_
    rintro e w1 ⟨rfl, hb1⟩
    rw [H1.out]
    go_wp2_with (refine wp_store_New rfl 32 _ _ rfl rfl (f := tabT t) rfl rfl trans_i ?_)
    refine (impl_readTrans _ hu _).mono ?_
    rintro e w2 ⟨rfl, hb2⟩
    rw [H2.out]
    have R1 : Row (w2.alloc (.cells (cs 16 (tabT u)) 32)) w1.heap.size 32 16 (tabT t) := ((Row.new w1 _ 16 _).grown hb2).old _
    have R2 : Row (w2.alloc (.cells (cs 16 (tabT u)) 32)) w2.heap.size 32 16 (tabT u) := Row.new w2 _ 16 _
    go_wp2_with (first
      | (refine wp_store_New rfl 32 _ _ rfl rfl (f := tabT u) rfl rfl trans_i ?_)
      | (refine wp_load_Row rfl 32 _ rfl w1.heap.size rfl R1 trans_u rfl trans_i ?_)
      | (refine wp_load_Row rfl 32 _ rfl w2.heap.size rfl R2 trans_u rfl trans_i ?_))
  iterate 3
    · go_ret2
      exact ⟨rfl, below_new (below_step (below_new hb1 _) hb2) _⟩
  · have hb := below_new (below_step (below_new hb1 (.cells (cs 16 (tabT t)) 32)) hb2) (.cells (cs 16 (tabT u)) 32)
    refine (hg _ _ _ (tabT_ok t) (tabT_ok u) hb).mono ?_
    rintro e w3 ⟨rfl, hb3⟩
    go_wp2_with fail
    refine (impl_trans_text _ (hF _ _ (tabT_ok t) (tabT_ok u)) _).mono ?_
    rintro e w4 ⟨rfl, hb4⟩
    go_wp2_with fail
    go_ret2
    refine ⟨?_, below_step (below_step hb hb3) hb4⟩
    rw [tabT_val H1.out, tabT_val H2.out]; rfl

end Go.Proofs.Ytlmpnbmifcelkaa
