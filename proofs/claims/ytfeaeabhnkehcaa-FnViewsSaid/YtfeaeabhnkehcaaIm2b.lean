/- Contracts: the program's exported functions on relations. -/
import Derived.Test.YtfeaeabhnkehcaaIm2
namespace Go.Proofs.Ytfeaeabhnkehcaa
set_option linter.unusedVariables false
set_option linter.unusedSimpArgs false
open Go.RowKit Go.Shelf
set_option maxRecDepth 100000
set_option maxHeartbeats 1000000

/-- in every world that w has grown to, calling g with two relations hands back F of them -/
def AsksRR (P : Program) (g : FuncId) (bv lb : Array Value) (F : (Nat → Int) → (Nat → Int) → Nat → Int) (w : World) : Prop :=
  ∀ (W : World) (x y : Nat → Int), Cond x → Cond y → Below w.heap.size w W → Calls P g (bv ++ (#[.agg (cs 4 x), .agg (cs 4 y)] ++ lb)) W fun e W' => e = .returned (.agg (cs 4 (F x y))) ∧ Below W.heap.size W W'
/-- .. with a relation and a condition hands back the number F of them -/
def AsksRC (P : Program) (g : FuncId) (bv lb : Array Value) (F : (Nat → Int) → Int → Int) (w : World) : Prop :=
  ∀ (W : World) (x : Nat → Int) (p : Int), Cond x → C p → Below w.heap.size w W → Calls P g (bv ++ (#[.agg (cs 4 x), .int .i64 p] ++ lb)) W fun e W' => e = .returned (.int .i64 (F x p)) ∧ Below W.heap.size W W'


theorem impl_two (r q : ByteArray) (hr : r.size ≤ 4611686018427387904) (hq : q.size ≤ 4611686018427387904) (g : FuncId) (bv lb : Array Value) (F : (Nat → Int) → (Nat → Int) → Nat → Int) (hF : ∀ x y, Cond x → Cond y → Cond (F x y))
    (w : World) (eg : Enters Try.prog g) (hg : AsksRR Try.prog g bv lb F w) :
    Calls Try.prog 56 #[.string r, .string q, .func (.func g) bv lb] w fun e w' => e = .returned (.tuple #[.string (orNone (okTxt 4 r && okTxt 4 q) (txt 4 (F (val r) (val q)))), .bool (okTxt 4 r && okTxt 4 q)]) ∧ Below w.heap.size w w' := by
  have eg' : ∀ args w, (callFunc g args).run Try.prog w = .ok (.enter g args) w := eg
  cases h1 : okTxt 4 r <;> cases h2 : okTxt 4 q
  all_goals
    have H1 := Lib.hid h1; clear h1
    have H2 := Lib.hid h2; clear h2
    go_enter Try.func56, Try.ntmps56
    go_wp2_with fail
    refine (impl_readRel _ hr _).mono ?_
    rintro e w1 ⟨rfl, hb1⟩
    rw [H1.out]
    go_wp2_with (refine wp_store_New rfl 53 _ _ rfl rfl (f := tab 4 r) rfl rfl rel_i ?_)
    refine (impl_readRel _ hq _).mono ?_
    rintro e w2 ⟨rfl, hb2⟩
    rw [H2.out]
    have R1 : Row (w2.alloc (.cells (cs 4 (tab 4 q)) 53)) w1.heap.size 53 4 (tab 4 r) := ((Row.new w1 _ 4 _).grown hb2).old _
    have R2 : Row (w2.alloc (.cells (cs 4 (tab 4 q)) 53)) w2.heap.size 53 4 (tab 4 q) := Row.new w2 _ 4 _
    go_wp2_with (first
      | (refine wp_store_New rfl 53 _ _ rfl rfl (f := tab 4 q) rfl rfl rel_i ?_)
      | (refine wp_load_Row rfl 53 _ rfl w1.heap.size rfl R1 rel_u rfl rel_i ?_)
      | (refine wp_load_Row rfl 53 _ rfl w2.heap.size rfl R2 rel_u rfl rel_i ?_))
  iterate 3
    · go_ret2
      exact ⟨rfl, below_new (below_step (below_new hb1 _) hb2) _⟩
  · have hb := below_new (below_step (below_new hb1 (.cells (cs 4 (tab 4 r)) 53)) hb2) (.cells (cs 4 (tab 4 q)) 53)
    refine (hg _ _ _ (tab_ok 4 r) (tab_ok 4 q) hb).mono ?_
    rintro e w3 ⟨rfl, hb3⟩
    go_wp2_with fail
    refine (impl_rel_text _ (hF _ _ (tab_ok 4 r) (tab_ok 4 q)) _).mono ?_
    rintro e w4 ⟨rfl, hb4⟩
    go_wp2_with fail
    go_ret2
    refine ⟨?_, below_step (below_step hb hb3) hb4⟩
    rw [tab_val H1.out, tab_val H2.out]; rfl

theorem impl_ComposeRel (r q : ByteArray) (hr : r.size ≤ 4611686018427387904) (hq : q.size ≤ 4611686018427387904) (w : World) :
    Calls Try.prog 89 #[.string r, .string q] w fun e w' => e = .returned (.tuple #[.string (orNone (okTxt 4 r && okTxt 4 q) (txt 4 (comp (val r) (val q)))), .bool (okTxt 4 r && okTxt 4 q)]) ∧ Below w.heap.size w w' := by
  go_enter Try.func89, Try.ntmps89
  go_wp2_with fail
  refine (impl_two r q hr hq _ #[] #[] comp (fun x y _ hy k => img_ok hy _) _ (enters_of Try.func128 (by kernel_rfl) rfl) ?_).mono ?_
  · intro W x y hx hy hb
    exact impl_rel_then x y W
  rintro e w1 ⟨rfl, hb1⟩
  go_wp2_with fail
  go_ret2
  exact ⟨rfl, hb1⟩

theorem impl_ComposeViews (r q : ByteArray) (hr : r.size ≤ 4611686018427387904) (hq : q.size ≤ 4611686018427387904) (w : World) :
    Calls Try.prog 37 #[.string r, .string q] w fun e w' => e = .returned (.tuple #[.string (orNone (okTxt 4 r && okTxt 4 q) (txt 4 (comp (val r) (val q)))), .bool (okTxt 4 r && okTxt 4 q)]) ∧ Below w.heap.size w w' := by
  go_enter Try.func37, Try.ntmps37
  go_wp2_with fail
  refine (impl_ComposeRel r q hr hq _).mono ?_
  rintro e w1 ⟨rfl, hb1⟩
  go_wp2_with fail
  go_ret2
  exact ⟨rfl, hb1⟩


theorem impl_asked (r : ByteArray) (p : Int) (hr : r.size ≤ 4611686018427387904) (g : FuncId) (bv lb : Array Value) (F : (Nat → Int) → Int → Int)
    (w : World) (eg : Enters Try.prog g) (hg : AsksRC Try.prog g bv lb F w) :
    Calls Try.prog 92 #[.string r, .int .i64 p, .func (.func g) bv lb] w fun e w' => e = .returned (.int .i64 (orMinus (okTxt 4 r && isC p) (F (val r) p))) ∧ Below w.heap.size w w' := by
  have eg' : ∀ args w, (callFunc g args).run Try.prog w = .ok (.enter g args) w := eg
  cases h1 : okTxt 4 r
  · have H1 := Lib.hid h1; clear h1
    go_enter Try.func92, Try.ntmps92
    go_wp2_with fail
    refine (impl_readRel _ hr _).mono ?_
    rintro e w1 ⟨rfl, hb1⟩
    rw [H1.out]
    go_wp2_with (refine wp_store_New rfl 53 _ _ rfl rfl (f := tab 4 r) rfl rfl rel_i ?_)
    go_ret
    exact ⟨rfl, below_new hb1 _⟩
  · cases h2 : isC p
    all_goals
      have H1 := Lib.hid h1; clear h1
      have H2 := Lib.hid h2; clear h2
      go_enter Try.func92, Try.ntmps92
      go_wp2_with fail
      refine (impl_readRel _ hr _).mono ?_
      rintro e w1 ⟨rfl, hb1⟩
      rw [H1.out]
      have R1 : Row (w1.alloc (.cells (cs 4 (tab 4 r)) 53)) w1.heap.size 53 4 (tab 4 r) := Row.new w1 _ 4 _
      go_wp2_with (refine wp_store_New rfl 53 _ _ rfl rfl (f := tab 4 r) rfl rfl rel_i ?_)
      refine (impl_ConditionValid _ _).mono ?_
      rintro e w2 ⟨rfl, rfl⟩
      rw [H2.out]
      go_wp2_with (refine wp_load_Row rfl 53 _ rfl w1.heap.size rfl R1 rel_u rfl rel_i ?_)
    · go_ret
      exact ⟨rfl, below_new hb1 _⟩
    · refine (hg _ _ _ (tab_ok 4 r) (isC_get H2.out) (below_new hb1 _)).mono ?_
      rintro e w3 ⟨rfl, hb3⟩
      go_wp2_with fail
      go_ret
      refine ⟨?_, below_step (below_new hb1 _) hb3⟩
      rw [tab_val H1.out]; rfl

theorem impl_DiamondOf (r : ByteArray) (p : Int) (hr : r.size ≤ 4611686018427387904) (w : World) :
    Calls Try.prog 91 #[.string r, .int .i64 p] w fun e w' => e = .returned (.int .i64 (orMinus (okTxt 4 r && isC p) (dia (val r) p))) ∧ Below w.heap.size w w' := by
  go_enter Try.func91, Try.ntmps91
  go_wp2_with fail
  refine (impl_asked r p hr _ #[] #[] dia _ (enters_of Try.func111 (by kernel_rfl) rfl) ?_).mono ?_
  · intro W x p hx hp hb
    exact impl_diamond x p W
  rintro e w1 ⟨rfl, hb1⟩
  go_wp2_with fail
  go_ret
  exact ⟨rfl, hb1⟩

theorem impl_ConcreteCondition (r : ByteArray) (p : Int) (hr : r.size ≤ 4611686018427387904) (w : World) :
    Calls Try.prog 39 #[.string r, .int .i64 p] w fun e w' => e = .returned (.int .i64 (orMinus (okTxt 4 r && isC p) (dia (val r) p))) ∧ Below w.heap.size w w' := by
  go_enter Try.func39, Try.ntmps39
  go_wp2_with fail
  refine (impl_DiamondOf r p hr _).mono ?_
  rintro e w1 ⟨rfl, hb1⟩
  go_wp2_with fail
  go_ret
  exact ⟨rfl, hb1⟩

theorem impl_AbstractCondition1 (r : Nat → Int) (p : Int) (w : World) :
    Calls Try.prog 93 #[.agg (cs 4 r), .int .i64 p] w fun e w' => e = .returned (.int .i64 (box (turn r) p)) ∧ Below w.heap.size w w' := by
  go_enter Try.func93, Try.ntmps93
  go_wp2_with (refine wp_load_Row rfl 53 _ rfl w.heap.size rfl (Row.new w 53 4 r) rel_u rfl rel_i ?_)
  refine (impl_turned r _).mono ?_
  rintro e w1 ⟨rfl, hb1⟩
  go_wp2_with fail
  refine (impl_box _ p _).mono ?_
  rintro e w2 ⟨rfl, hb2⟩
  go_wp2_with fail
  go_ret
  exact ⟨rfl, below_step (below_step (below_new (Below.refl _ _) _) hb1) hb2⟩

theorem impl_AbstractCondition (r : ByteArray) (p : Int) (hr : r.size ≤ 4611686018427387904) (w : World) :
    Calls Try.prog 40 #[.string r, .int .i64 p] w fun e w' => e = .returned (.int .i64 (orMinus (okTxt 4 r && isC p) (box (turn (val r)) p))) ∧ Below w.heap.size w w' := by
  go_enter Try.func40, Try.ntmps40
  go_wp2_with fail
  refine (impl_asked r p hr _ #[] #[] (fun x p => box (turn x) p) _ (enters_of Try.func93 (by kernel_rfl) rfl) ?_).mono ?_
  · intro W x p hx hp hb
    exact impl_AbstractCondition1 x p W
  rintro e w1 ⟨rfl, hb1⟩
  go_wp2_with fail
  go_ret
  exact ⟨rfl, hb1⟩
end Go.Proofs.Ytfeaeabhnkehcaa
