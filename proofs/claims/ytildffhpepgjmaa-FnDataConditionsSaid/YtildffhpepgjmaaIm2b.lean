/- Contracts: the program's exported functions on relations. -/
import Derived.Test.YtildffhpepgjmaaIm2
namespace Go.Proofs.Ytildffhpepgjmaa
set_option linter.unusedVariables false
set_option linter.unusedSimpArgs false
open Go.RowKit Go.Shelf
set_option maxRecDepth 100000
set_option maxHeartbeats 1000000

/-- in every world that w has grown to, calling g with two relations hands back F of them -/
def AsksRR (P : Program) (g : FuncId) (bv lb : Array Value) (F : (Nat → Int) → (Nat → Int) → Nat → Int) (w : World) : Prop :=
  ∀ (W : World) (x y : Nat → Int), Cond x → Cond y → Below w.heap.size w W → Calls P g (bv ++ (#[.agg (cs 4 x), .agg (cs 4 y)] ++ lb)) W fun e W' => e = .returned (.agg (cs 4 (F x y))) ∧ Below W.heap.size W W'
/-- .. with a relation and a condition hands back the number F of them -/
def AsksRC (P : Program) (g : FuncId) (bv lb : Array Value) (F : (Nat → Int) → Int → Int) (w : World) : Prop :=
  ∀ (W : World) (x : Nat → Int) (p : Int), Cond x → C p → Below w.heap.size w W → Calls P g (bv ++ (#[.agg (cs 4 x), .int .i64 p] ++ lb)) W fun e W' => e = .returned (.int .i64 (F x p)) ∧ Below W.heap.size W W'


theorem impl_asked (r : ByteArray) (p : Int) (hr : r.size ≤ 4611686018427387904) (g : FuncId) (bv lb : Array Value) (F : (Nat → Int) → Int → Int)
    (w : World) (eg : Enters Try.prog g) (hg : AsksRC Try.prog g bv lb F w) :
    Calls Try.prog 50 #[.string r, .int .i64 p, .func (.func g) bv lb] w fun e w' => e = .returned (.int .i64 (orMinus (okTxt 4 r && isC p) (F (val r) p))) ∧ Below w.heap.size w w' := by
  have eg' : ∀ args w, (callFunc g args).run Try.prog w = .ok (.enter g args) w := eg
  cases h1 : okTxt 4 r
  · have H1 := Lib.hid h1; clear h1
    go_enter Try.func50, Try.ntmps50
    go_wp2_with fail
    refine (impl_readRel _ hr _).mono ?_
    rintro e w1 ⟨rfl, hb1⟩
    rw [H1.out]
    go_wp2_with (refine wp_store_New rfl 45 _ _ rfl rfl (f := tab 4 r) rfl rfl rel_i ?_)
    go_ret
    exact ⟨rfl, below_new hb1 _⟩
  · cases h2 : isC p
    all_goals
      have H1 := Lib.hid h1; clear h1
      have H2 := Lib.hid h2; clear h2
      go_enter Try.func50, Try.ntmps50
      go_wp2_with fail
      refine (impl_readRel _ hr _).mono ?_
      rintro e w1 ⟨rfl, hb1⟩
      rw [H1.out]
      have R1 : Row (w1.alloc (.cells (cs 4 (tab 4 r)) 45)) w1.heap.size 45 4 (tab 4 r) := Row.new w1 _ 4 _
      go_wp2_with (refine wp_store_New rfl 45 _ _ rfl rfl (f := tab 4 r) rfl rfl rel_i ?_)
      refine (impl_ConditionValid _ _).mono ?_
      rintro e w2 ⟨rfl, rfl⟩
      rw [H2.out]
      go_wp2_with (refine wp_load_Row rfl 45 _ rfl w1.heap.size rfl R1 rel_u rfl rel_i ?_)
    · go_ret
      exact ⟨rfl, below_new hb1 _⟩
    · refine (hg _ _ _ (tab_ok 4 r) (isC_get H2.out) (below_new hb1 _)).mono ?_
      rintro e w3 ⟨rfl, hb3⟩
      go_wp2_with fail
      go_ret
      refine ⟨?_, below_step (below_new hb1 _) hb3⟩
      rw [tab_val H1.out]; rfl

theorem impl_DiamondOf (r : ByteArray) (p : Int) (hr : r.size ≤ 4611686018427387904) (w : World) :
    Calls Try.prog 49 #[.string r, .int .i64 p] w fun e w' => e = .returned (.int .i64 (orMinus (okTxt 4 r && isC p) (dia (val r) p))) ∧ Below w.heap.size w w' := by
  go_enter Try.func49, Try.ntmps49
  go_wp2_with fail
  refine (impl_asked r p hr _ #[] #[] dia _ (enters_of Try.func99 (by kernel_rfl) rfl) ?_).mono ?_
  · intro W x p hx hp hb
    exact impl_diamond x p W
  rintro e w1 ⟨rfl, hb1⟩
  go_wp2_with fail
  go_ret
  exact ⟨rfl, hb1⟩

theorem impl_ConcreteCondition (r : ByteArray) (p : Int) (hr : r.size ≤ 4611686018427387904) (w : World) :
    Calls Try.prog 10 #[.string r, .int .i64 p] w fun e w' => e = .returned (.int .i64 (orMinus (okTxt 4 r && isC p) (dia (val r) p))) ∧ Below w.heap.size w w' := by
  go_enter Try.func10, Try.ntmps10
  go_wp2_with fail
  refine (impl_DiamondOf r p hr _).mono ?_
  rintro e w1 ⟨rfl, hb1⟩
  go_wp2_with fail
  go_ret
  exact ⟨rfl, hb1⟩

theorem impl_AbstractCondition1 (r : Nat → Int) (p : Int) (w : World) :
    Calls Try.prog 51 #[.agg (cs 4 r), .int .i64 p] w fun e w' => e = .returned (.int .i64 (box (turn r) p)) ∧ Below w.heap.size w w' := by
  go_enter Try.func51, Try.ntmps51
  go_wp2_with (refine wp_load_Row rfl 45 _ rfl w.heap.size rfl (Row.new w 45 4 r) rel_u rfl rel_i ?_)
  refine (impl_turned r _).mono ?_
  rintro e w1 ⟨rfl, hb1⟩
  go_wp2_with fail
  refine (impl_box _ p _).mono ?_
  rintro e w2 ⟨rfl, hb2⟩
  go_wp2_with fail
  go_ret
  exact ⟨rfl, below_step (below_step (below_new (Below.refl _ _) _) hb1) hb2⟩

theorem impl_AbstractCondition (r : ByteArray) (p : Int) (hr : r.size ≤ 4611686018427387904) (w : World) :
    Calls Try.prog 11 #[.string r, .int .i64 p] w fun e w' => e = .returned (.int .i64 (orMinus (okTxt 4 r && isC p) (box (turn (val r)) p))) ∧ Below w.heap.size w w' := by
  go_enter Try.func11, Try.ntmps11
  go_wp2_with fail
  refine (impl_asked r p hr _ #[] #[] (fun x p => box (turn x) p) _ (enters_of Try.func51 (by kernel_rfl) rfl) ?_).mono ?_
  · intro W x p hx hp hb
    exact impl_AbstractCondition1 x p W
  rintro e w1 ⟨rfl, hb1⟩
  go_wp2_with fail
  go_ret
  exact ⟨rfl, hb1⟩
end Go.Proofs.Ytildffhpepgjmaa
