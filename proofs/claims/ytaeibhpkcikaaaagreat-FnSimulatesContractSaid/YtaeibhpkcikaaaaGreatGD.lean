/- Contracts: the program's residuals and simulations. -/
import Derived.Test.YtaeibhpkcikaaaaGreatGC
import Derived.Test.YtaeibhpkcikaaaaGreatSp10
/- Im10 -/
namespace Go.Proofs.YtaeibhpkcikaaaaGreat
set_option linter.unusedVariables false
set_option linter.unusedSimpArgs false
open Go.RowKit Go.Shelf
set_option maxRecDepth 100000
set_option maxHeartbeats 1000000

/-! ### a relation and a transformer -/
/-- in every world that w has grown to, calling g with a relation and a transformer hands back F of them -/
def AsksRT (P : Program) (g : FuncId) (bv lb : Array Value) (F : (Nat → Int) → (Nat → Int) → Nat → Int) (w : World) : Prop :=
  ∀ (W : World) (x y : Nat → Int), Cond x → Cond y → Below w.heap.size w W → Calls P g (bv ++ (#[.agg (cs 4 x), .agg (cs 16 y)] ++ lb)) W fun e W' => e = .returned (.agg (cs 16 (F x y))) ∧ Below W.heap.size W W'

/-- the least concrete one that simulates -/
def concT (r t : Nat → Int) : Nat → Int := leastT (angelT r) (thenT (angelT r) t)
theorem concT_ok (r t : Nat → Int) : Cond (concT r t) := leastT_ok (thenT_ok (angelT_ok r) t)

/-- a whole row is read where a guard lets by -/
theorem wp_load_RowG {P : Program} {ops : Array Oper} {rest : List Oper} {o : Oper} {a : Act} {w : World} {Q : Exit → Act → World → Prop} (hw : Region.wanted o (yielded ops a.tmps) = true) (ty : TypeId) (x : Operand) (ho : o.op = .load ty x) (g : Nat) (hx : a.eval x = .pointer (some ⟨g, 0, none⟩)) {t : TypeId} {n : Nat} {f : Nat → Int} {d : TypeDesc}
    (hg : Row w g t n f) (hu : P.underlying ty = some d) (hd : (match d with | .struct _ | .array _ _ => true | _ => false) = true) (hi : (P.info? ty).map (·.size) = some n)
    (h : wpList P ops Q rest (a.put o.dst (.agg (cs n f))) w) : wpList P ops Q (o :: rest) a w := by
  unfold wpList
  rw [if_pos hw]
  exact Or.inl (wp_load_row ty x ho g hx t (cs n f) (0, 0) d hg.eq hu hd (by rw [cs_size]; exact hi) h)

theorem impl_SimulatesForward (r t u : ByteArray) (hr : r.size ≤ 4611686018427387904) (ht : t.size ≤ 4611686018427387904) (hu : u.size ≤ 4611686018427387904) (w : World) :
    Calls Tryz.prog 13 #[.string r, .string t, .string u] w fun e w' => e = .returned (.bool (okTxt 4 r && (okTr t && okTr u) && fwdT (val r) (val t) (val u))) ∧ Below w.heap.size w w' := by
  cases h1 : okTxt 4 r <;> cases h2 : okTr t <;> cases h3 : okTr u
  all_goals
    have H1 := Lib.hid h1; clear h1
    have H2 := Lib.hid h2; clear h2
    have H3 := Lib.hid h3; clear h3
    go_enter Tryz.func13, Tryz.ntmps13
    go_wp2_with fail
    refine (impl_readRel _ hr _).mono ?_
    rintro e w1 ⟨rfl, hb1⟩
    rw [H1.out]
    go_wp2_with (refine wp_store_New rfl 41 _ _ rfl rfl (f := tab 4 r) rfl rfl rel_i ?_)
    refine (impl_readTrans _ ht _).mono ?_
    rintro e w2 ⟨rfl, hb2⟩
    rw [H2.out]
    go_wp2_with (refine wp_store_New rfl 48 _ _ rfl rfl (f := tabT t) rfl rfl trans_i ?_)
    refine (impl_readTrans _ hu _).mono ?_
    rintro e w3 ⟨rfl, hb3⟩
    rw [H3.out]
    have R1 : Row (w3.alloc (.cells (cs 16 (tabT u)) 48)) w1.heap.size 41 4 (tab 4 r) := ((((Row.new w1 _ 4 _).grown hb2).old _).grown hb3).old _
    have R2 : Row (w3.alloc (.cells (cs 16 (tabT u)) 48)) w2.heap.size 48 16 (tabT t) := ((Row.new w2 _ 16 _).grown hb3).old _
    have R3 : Row (w3.alloc (.cells (cs 16 (tabT u)) 48)) w3.heap.size 48 16 (tabT u) := Row.new w3 _ 16 _
    have hb := below_new (below_step (below_new (below_step (below_new hb1 (.cells (cs 4 (tab 4 r)) 41)) hb2) (.cells (cs 16 (tabT t)) 48)) hb3) (.cells (cs 16 (tabT u)) 48)
    go_wp2_with (first
      | (refine wp_store_New rfl 48 _ _ rfl rfl (f := tabT u) rfl rfl trans_i ?_)
      | (refine wp_load_RowG (by rfl) 41 _ rfl w1.heap.size rfl R1 rel_u rfl rel_i ?_)
      | (refine wp_load_RowG (by rfl) 48 _ rfl w2.heap.size rfl R2 trans_u rfl trans_i ?_)
      | (refine wp_load_RowG (by rfl) 48 _ rfl w3.heap.size rfl R3 trans_u rfl trans_i ?_))
  iterate 7
    · go_ret
      exact ⟨rfl, hb⟩
  · refine (impl_forward _ _ _ (tabT_ok t) (tabT_ok u) _).mono ?_
    rintro e w4 ⟨rfl, hb4⟩
    go_wp2_with fail
    go_ret
    refine ⟨?_, below_step hb hb4⟩
    rw [tab_val H1.out, tabT_val H2.out, tabT_val H3.out]; rfl
end Go.Proofs.YtaeibhpkcikaaaaGreat

/- Im11 -/
namespace Go.Proofs.YtaeibhpkcikaaaaGreat
set_option linter.unusedVariables false
set_option linter.unusedSimpArgs false
open Go.RowKit Go.Shelf
set_option maxRecDepth 100000
set_option maxHeartbeats 1000000

/-- the demon's way from abstract states to concrete ones -/
def wayT (r : Nat → Int) : Nat → Int := demonT (turn r)
theorem wayT_ok (r : Nat → Int) : Cond (wayT r) := demonT_ok _
def bwdT (r t u : Nat → Int) : Bool := refT (thenT t (wayT r)) (thenT (wayT r) u)

/-- the greatest abstract one that is simulated -/
def absT (r u : Nat → Int) : Nat → Int := mostT (wayT r) (thenT (wayT r) u)
theorem absT_ok (r u : Nat → Int) : Cond (absT r u) := mostT_ok (thenT_ok (wayT_ok r) u)

end Go.Proofs.YtaeibhpkcikaaaaGreat

/- Sp11 -/
namespace Go.Proofs.YtaeibhpkcikaaaaGreat
set_option linter.unusedVariables false
set_option linter.unusedSimpArgs false
open Go.RowKit Go.Shelf
set_option maxRecDepth 100000
set_option maxHeartbeats 1000000

/-- the text of the demon's way, as the reference makes it -/
theorem way_eq (r : ByteArray) : Eq16 (dualT (val (txt 16 (angelT (val (txt 4 (turn (val r)))))))) (wayT (val r)) := by
  have h1 : Eq16 (val (txt 16 (angelT (val (txt 4 (turn (val r))))))) (angelT (turn (val r))) :=
    (eq16_txt (angelT_ok _)).trans (eq16_angel fun k hk => eq4_txt (turn_ok _) k hk)
  exact h1.dual.trans (dual_angel (turn_ok _))
theorem way_val (r : ByteArray) : Eq16 (val (txt 16 (dualT (val (txt 16 (angelT (val (txt 4 (turn (val r))))))))))  (wayT (val r)) :=
  (eq16_txt (dualT_ok (val_ok _))).trans (way_eq r)
theorem mono_way (r : ByteArray) : mono (wayT (val r)) = true := mono_demon (turn_ok _)

end Go.Proofs.YtaeibhpkcikaaaaGreat
