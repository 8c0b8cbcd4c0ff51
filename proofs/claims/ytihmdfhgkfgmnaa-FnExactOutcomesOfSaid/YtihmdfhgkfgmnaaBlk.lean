/- Values of several cells in memory: what the walks need. No function in sight. -/
import Derived.Test.YtihmdfhgkfgmnaaIm5
import Derived.Maps.AppendAt
namespace Go.Proofs.Ytihmdfhgkfgmnaa
set_option linter.unusedVariables false
set_option linter.unusedSimpArgs false
open Go.RowKit Go.Shelf
set_option maxRecDepth 100000
set_option maxHeartbeats 1000000

/-- a value of several cells in a block of its own -/
structure Blk (w : World) (b : Nat) (t : TypeId) (c : Array Value) : Prop where
  eq : w.heap[b]? = some (.cells c t (0, 0))
section
variable {w : World} {b : Nat} {t : TypeId} {c : Array Value}
theorem Blk.lt (h : Blk w b t c) : b < w.heap.size := (Array.getElem?_eq_some_iff.1 h.eq).1
theorem Blk.below {w' : World} {B : Nat} (h : Blk w b t c) (hb : Below B w w') (hB : b < B) : Blk w' b t c := ⟨(hb.block b hB).trans h.eq⟩
theorem Blk.grown {w' : World} (h : Blk w b t c) (hb : Below w.heap.size w w') : Blk w' b t c := h.below hb h.lt
theorem Blk.old (h : Blk w b t c) (o : Obj) : Blk (w.alloc o) b t c := ⟨(Below.heap_alloc w o b h.lt).trans h.eq⟩
theorem Blk.new (w : World) (t : TypeId) (c : Array Value) : Blk (w.alloc (.cells c t)) w.heap.size t c := ⟨heap_alloc_new w _⟩
theorem Blk.newAt (w : World) (t : TypeId) (c : Array Value) (b : Nat) (hb : b = w.heap.size) : Blk (w.alloc (.cells c t)) b t c := by subst hb; exact Blk.new w t c
theorem Blk.drew (h : Blk w b t c) : Blk w.drew b t c := ⟨h.eq⟩
theorem Blk.drewN (h : Blk w b t c) (k : Nat) : Blk (w.drewN k) b t c := ⟨h.eq⟩
theorem Blk.setRow (h : Blk w b t c) (d : Array Value) : Blk (w.setRow b d) b t d := ⟨setRow_heap w b _ _ t _ h.eq⟩
theorem Blk.setRowOther (h : Blk w b t c) (g : Nat) (d : Array Value) (hne : b ≠ g) : Blk (w.setRow g d) b t c := ⟨(setRow_other w g b d hne).trans h.eq⟩
theorem Blk.free (h : Blk w b t c) (k : Nat) : w.frozen? ⟨b, k, none⟩ = false := frozen_of_row w b k _ t h.eq
theorem Blk.cell2 {x y : Value} (h : Blk w b t #[x, y]) : w.cell? ⟨b, 0, none⟩ = some x ∧ w.cell? ⟨b, 1, none⟩ = some y := by
  constructor
  · rw [cell_of_row w b 0 _ _ _ h.eq]; rfl
  · rw [cell_of_row w b 1 _ _ _ h.eq]; rfl
theorem Blk.cell3 {x y z : Value} (h : Blk w b t #[x, y, z]) : w.cell? ⟨b, 0, none⟩ = some x ∧ w.cell? ⟨b, 1, none⟩ = some y ∧ w.cell? ⟨b, 2, none⟩ = some z := by
  refine ⟨?_, ?_, ?_⟩
  · rw [cell_of_row w b 0 _ _ _ h.eq]; rfl
  · rw [cell_of_row w b 1 _ _ _ h.eq]; rfl
  · rw [cell_of_row w b 2 _ _ _ h.eq]; rfl
end
section
variable {P : Program} {ops : Array Oper} {rest : List Oper} {o : Oper} {a : Act} {w : World} {Q : Exit → Act → World → Prop}
theorem wp_load_Blk (hgd : o.guard = none) (ty : TypeId) (x : Operand) (ho : o.op = .load ty x) (g : Nat) (hx : a.eval x = .pointer (some ⟨g, 0, none⟩)) {t : TypeId} {c : Array Value} {d : TypeDesc}
    (hg : Blk w g t c) (hu : P.underlying ty = some d) (hd : (match d with | .struct _ | .array _ _ => true | _ => false) = true) (hi : (P.info? ty).map (·.size) = some c.size)
    (h : wpList P ops Q rest (a.put o.dst (.agg c)) w) : wpList P ops Q (o :: rest) a w :=
  wpList_load_row hgd ty x ho g hx t c (0, 0) d hg.eq hu hd hi h
theorem wp_load_BlkG (hw : Region.wanted o (yielded ops a.tmps) = true) (ty : TypeId) (x : Operand) (ho : o.op = .load ty x) (g : Nat) (hx : a.eval x = .pointer (some ⟨g, 0, none⟩)) {t : TypeId} {c : Array Value} {d : TypeDesc}
    (hg : Blk w g t c) (hu : P.underlying ty = some d) (hd : (match d with | .struct _ | .array _ _ => true | _ => false) = true) (hi : (P.info? ty).map (·.size) = some c.size)
    (h : wpList P ops Q rest (a.put o.dst (.agg c)) w) : wpList P ops Q (o :: rest) a w := by
  unfold wpList
  rw [if_pos hw]
  exact Or.inl (wp_load_row ty x ho g hx t c (0, 0) d hg.eq hu hd hi h)
theorem wp_store_Blk (hgd : o.guard = none) (ty : TypeId) (x y : Operand) (ho : o.op = .store ty x y) (g : Nat) (hx : a.eval x = .pointer (some ⟨g, 0, none⟩)) {c : Array Value} (hy : a.eval y = .agg c) {t : TypeId} {c0 : Array Value}
    (hg : Blk w g t c0) (hi : (P.info? ty).map (·.size) = some c.size) (hs : c0.size = c.size) (h1 : c.all (·.oneCell') = true)
    (h : wpList P ops Q rest (a.put o.dst undef) (w.setRow g c)) : wpList P ops Q (o :: rest) a w :=
  wpList_store_row hgd ty x y ho g c hx hy t c0 hg.eq hi (by rw [hs]) h1 h
theorem setRow_new (w0 : World) (c0 c : Array Value) (t : TypeId) : (w0.alloc (.cells c0 t)).setRow w0.heap.size c = w0.alloc (.cells c t) := by
  unfold World.setRow World.alloc
  congr 1
  apply Array.ext
  · simp
  · intro i h1 h2
    rw [Array.getElem_modify]
    by_cases e : w0.heap.size = i
    · subst e; simp
    · have : i < w0.heap.size := by simp at h2; omega
      simp [e, Array.getElem_push_lt this]
theorem wp_store_BlkNew {w0 : World} {c0 : Array Value} {t : TypeId} (hgd : o.guard = none) (ty : TypeId) (x y : Operand) (ho : o.op = .store ty x y) (hx : a.eval x = .pointer (some ⟨w0.heap.size, 0, none⟩)) {c : Array Value} (hy : a.eval y = .agg c)
    (hi : (P.info? ty).map (·.size) = some c.size) (hs : c0.size = c.size) (h1 : c.all (·.oneCell') = true)
    (h : wpList P ops Q rest (a.put o.dst undef) (w0.alloc (.cells c t))) : wpList P ops Q (o :: rest) a (w0.alloc (.cells c0 t)) := by
  refine wp_store_Blk hgd ty x y ho w0.heap.size hx hy (Blk.new w0 t c0) hi hs h1 ?_
  rw [setRow_new]; exact h
theorem ret_Blk {fn : Func} {R : Ending → World → Prop} {p : Tmp} {ty : TypeId} (h : fn.results = #[.cell p ty]) (g : Nat) (hp : a.tmps.getD p undef = .pointer (some ⟨g, 0, none⟩)) {t : TypeId} {c : Array Value} {d : TypeDesc}
    (hg : Blk w g t c) (hu : P.underlying ty = some d) (hd : (match d with | .struct _ | .array _ _ => true | _ => false) = true) (hi : (P.info? ty).map (·.size) = some c.size)
    (hdef : a.defers = []) (hR : R (.returned (.agg c)) w) : bodyPost P fn R .ret a w :=
  bodyPost_ret (results_cell_row h a.tmps w g t c (0, 0) d hp hg.eq hu hd hi) hdef hR
theorem ret_Blk2 {fn : Func} {R : Ending → World → Prop} {p u : Tmp} {ty : TypeId} (h : fn.results = #[.cell p ty, .tmp u]) (g : Nat) (hp : a.tmps.getD p undef = .pointer (some ⟨g, 0, none⟩)) {t : TypeId} {c : Array Value} {d : TypeDesc}
    (hg : Blk w g t c) (hu : P.underlying ty = some d) (hd : (match d with | .struct _ | .array _ _ => true | _ => false) = true) (hi : (P.info? ty).map (·.size) = some c.size)
    (hdef : a.defers = []) (hR : R (.returned (.tuple #[.agg c, a.tmps.getD u undef])) w) : bodyPost P fn R .ret a w := by
  refine bodyPost_ret (v := .tuple #[.agg c, a.tmps.getD u undef]) ?_ hdef hR
  rw [results_cell_tmp h, hp]
  simp only [asAddr, Sem.run_pure, Result.andThen]
  rw [run_loadVar_row w g t ty c (0, 0) d hg.eq hu hd hi]
theorem yields_Blk {S : World → Prop} {op : Oper} (hw : Region.wanted op (yielded ops a.tmps) = true) (ty : TypeId) (x : Operand) (ho : op.op = .load ty x)
    (b : Nat) (hx : a.eval x = .pointer (some ⟨b, 0, none⟩)) {t : TypeId} {c : Array Value} {d : TypeDesc} (hS : ∀ w, S w → Blk w b t c)
    (hu : P.underlying ty = some d) (hd : (match d with | .struct _ | .array _ _ => true | _ => false) = true) (hi : (P.info? ty).map (·.size) = some c.size) : YieldsIf P ops S op (.agg c) a :=
  .inl ⟨hw, fun w hw' => by
    unfold execOp
    simp only [ho, hx, Instr.loadAt, Instr.sureAddr, Sem.run_bind, Sem.run_pure, Result.andThen_ok, run_loadVar_row w b t ty c (0, 0) d (hS w hw').eq hu hd hi]⟩
theorem op_store_Blk {K : Act → World → Prop} (ty : TypeId) (x y : Operand) (ho : o.op = .store ty x y)
    (g : Nat) (hx : a.eval x = .pointer (some ⟨g, 0, none⟩)) {c : Array Value} (hy : a.eval y = .agg c) {t : TypeId} {c0 : Array Value}
    (hg : Blk w g t c0) (hi : (P.info? ty).map (·.size) = some c.size) (hs : c0.size = c.size) (h1 : c.all (·.oneCell') = true)
    (h : K (a.put o.dst undef) (w.setRow g c)) : o.wp P a w K Q :=
  wp_store_row ty x y ho g c hx hy t c0 hg.eq hi (by rw [hs]) h1 h
theorem op_append_own {K : Act → World → Prop} (s x : Operand) (t : TypeId)
    (ho : o.op = .call { callee := .builtin .append, args := #[s, x], argTypes := #[t, t] })
    (base : Nat) (e : TypeId) (i : TypeInfo) (z : Value) (size bytes : Nat) (ht : P.underlying t = some (.slice e)) (hi : P.info? e = some i) (hz : i.zero = some z)
    (hsize : i.size = size) (hby : i.bytes = bytes) (hzs : z.cells.size = size) (hsz : 0 < size)
    (v : Value) (n : Nat) (xs : List Value) (hs : a.eval s = v) (hown : w.ownsRow base e size v n xs)
    (ad : Addr) (m c : Nat) (news : List Value) (hx : a.eval x = .slice (some ad) m c) (hl : news.length = m * size) (hnews : ∀ j u, news[j]? = some u → w.cell? (ad.add j) = some u) (h1 : ∀ u ∈ news, u.oneCell' = true)
    (h63 : n + m ≤ maxLen) (hbytes : (n + m) * bytes ≤ 140737488355328) (hbase : base ≤ w.heap.size)
    (h : ∀ v' w', w'.ownsRow base e size v' (n + m) (xs ++ news) → w.grownBy w' v.ownBlock → (v' = .slice none 0 0 ↔ v = .slice none 0 0 ∧ m = 0) → (v'.ownBlock = v.ownBlock ∨ v'.ownBlock = some w.heap.size) → K (a.put o.dst v') w') :
    o.wp P a w K Q := by
  obtain ⟨v', w', hr, h2, h3, h4, h5⟩ := run_append_own_at (P := P) w base t o.type e i z size bytes ht hi hz hsize hby hzs hsz v n xs hown ad m c news hl hnews h1 h63 hbytes hbase
  unfold Oper.wp execOp
  simp only [ho, resolve, invoke, builtin, Sem.run_bind, Sem.run_pure, Result.andThen_ok, List.map_toArray, List.map_cons, List.map_nil, hs, hx, hr]
  exact h v' w' h2 h3 h4 h5
end
end Go.Proofs.Ytihmdfhgkfgmnaa
