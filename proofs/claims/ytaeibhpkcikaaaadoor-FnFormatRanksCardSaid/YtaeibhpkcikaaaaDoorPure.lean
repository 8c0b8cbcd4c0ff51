/- Plain functions on conditions, tables of numbers and texts of digits, and how they stand in memory. No program in sight. -/
import Derived.WalkKit
import Derived.Deep.QuietTactic
import Derived.BigQuiet
import Derived.WalkLawsBesides
import Derived.Lib.Hide
import Derived.Shelf.Abstract
namespace Go.Proofs.YtaeibhpkcikaaaaDoor
set_option linter.unusedVariables false
set_option linter.unusedSimpArgs false
open Go.RowKit

/-! ### rows of numbers -/
def cs (n : Nat) (f : Nat → Int) : Array Value := ((List.range n).map fun (k : Nat) => Value.int .i64 (f k)).toArray
@[go_sem] theorem cs_size (n : Nat) (f : Nat → Int) : (cs n f).size = n := by simp [cs]
@[go_sem] theorem cs_get (n : Nat) (f : Nat → Int) (k : Nat) (h : k < n) : (cs n f)[k]? = some (.int .i64 (f k)) := by simp [cs, h]
@[go_sem] theorem cs_getElem (n : Nat) (f : Nat → Int) (k : Nat) (h : k < (cs n f).size) : (cs n f)[k] = .int .i64 (f k) := by simp [cs]
theorem cs_ext {n : Nat} {f g : Nat → Int} (h : ∀ k, k < n → f k = g k) : cs n f = cs n g := by
  unfold cs
  exact congrArg List.toArray (List.map_congr_left fun k hk => by rw [h k (List.mem_range.1 hk)])
def upd (f : Nat → Int) (i : Nat) (v : Int) : Nat → Int := fun k => if k = i then v else f k
theorem upd_same (f : Nat → Int) (i : Nat) (v : Int) : upd f i v i = v := by simp [upd]
theorem upd_other (f : Nat → Int) (i : Nat) (v : Int) (k : Nat) (h : k ≠ i) : upd f i v k = f k := by simp [upd, h]
@[go_sem] theorem cs_set (n : Nat) (f : Nat → Int) (i : Nat) (v : Int) : (cs n f).setIfInBounds i (.int .i64 v) = cs n (upd f i v) := by
  apply Array.ext
  · simp [cs_size]
  · intro k h1 h2
    have hk : k < n := by simpa [cs_size] using h2
    simp only [cs, upd, List.getElem_toArray, List.getElem_map, List.getElem_range]
    by_cases e : i = k
    · simp [e]
    · simp [e, show ¬ k = i from fun h => e h.symm]
theorem cs_one (n : Nat) (f : Nat → Int) : (cs n f).all (·.oneCell') = true := by simp [cs, Value.oneCell']
theorem cs4 (f : Nat → Int) : cs 4 f = #[.int .i64 (f 0), .int .i64 (f 1), .int .i64 (f 2), .int .i64 (f 3)] := rfl
theorem cs4_zero : cs 4 (fun _ => 0) = #[.int .i64 0, .int .i64 0, .int .i64 0, .int .i64 0] := rfl

theorem cs16_zero : cs 16 (fun _ => 0) = #[.int .i64 0, .int .i64 0, .int .i64 0, .int .i64 0, .int .i64 0, .int .i64 0, .int .i64 0, .int .i64 0, .int .i64 0, .int .i64 0, .int .i64 0, .int .i64 0, .int .i64 0, .int .i64 0, .int .i64 0, .int .i64 0] := rfl

/-- block b is a row that reads f -/
structure Row (w : World) (b : Nat) (t : TypeId) (n : Nat) (f : Nat → Int) : Prop where
  eq : w.heap[b]? = some (.cells (cs n f) t (0, 0))
section
variable {w : World} {b : Nat} {t : TypeId} {n : Nat} {f : Nat → Int}
theorem Row.cell (h : Row w b t n f) (k : Nat) (hk : k < n) : w.cell? ⟨b, k, none⟩ = some (.int .i64 (f k)) := by
  rw [cell_of_row w b k _ t (0, 0) h.eq]; exact cs_get n f k hk
theorem Row.free (h : Row w b t n f) (k : Nat) : w.frozen? ⟨b, k, none⟩ = false := frozen_of_row w b k _ t h.eq
theorem Row.below {w' : World} {B : Nat} (h : Row w b t n f) (hb : Below B w w') (hB : b < B) : Row w' b t n f := ⟨(hb.block b hB).trans h.eq⟩
theorem Row.lt (h : Row w b t n f) : b < w.heap.size := by
  have h := h.eq
  rcases Nat.lt_or_ge b w.heap.size with hl | hg
  · exact hl
  · simp [Array.getElem?_eq_none hg] at h
theorem Row.grown {w' : World} (h : Row w b t n f) (hb : Below w.heap.size w w') : Row w' b t n f := h.below hb h.lt
theorem Row.new (w : World) (t : TypeId) (n : Nat) (f : Nat → Int) : Row (w.alloc (.cells (cs n f) t)) w.heap.size t n f := ⟨heap_alloc_new w _⟩
theorem Row.newAt (w : World) (t : TypeId) (n : Nat) (f : Nat → Int) (b : Nat) (hb : b = w.heap.size) : Row (w.alloc (.cells (cs n f) t)) b t n f := by subst hb; exact Row.new w t n f
theorem Row.old (h : Row w b t n f) (o : Obj) : Row (w.alloc o) b t n f := ⟨(Below.heap_alloc w o b h.lt).trans h.eq⟩
theorem Row.set (h : Row w b t n f) (i : Nat) (v : Int) : Row (w.setCell ⟨b, i, none⟩ (.int .i64 v)) b t n (upd f i v) := by
  constructor; rw [← cs_set]; exact heap_setCell_same w b i _ t _ h.eq
theorem Row.setOther (h : Row w b t n f) (a : Addr) (v : Value) (hne : b ≠ a.block) : Row (w.setCell a v) b t n f :=
  ⟨(heap_setCell_other w a b v hne).trans h.eq⟩
theorem Row.drew (h : Row w b t n f) : Row w.drew b t n f := ⟨h.eq⟩
theorem Row.drewN (h : Row w b t n f) (k : Nat) : Row (w.drewN k) b t n f := ⟨h.eq⟩
theorem Row.ext {g : Nat → Int} (h : Row w b t n f) (e : ∀ k, k < n → f k = g k) : Row w b t n g := by
  constructor; rw [← cs_ext e]; exact h.eq
end
theorem Row.zero16 (w : World) (t : TypeId) (b : Nat) (hb : b = w.heap.size) : Row (w.alloc (.cells #[.int .i64 0, .int .i64 0, .int .i64 0, .int .i64 0, .int .i64 0, .int .i64 0, .int .i64 0, .int .i64 0, .int .i64 0, .int .i64 0, .int .i64 0, .int .i64 0, .int .i64 0, .int .i64 0, .int .i64 0, .int .i64 0] t)) b t 16 (fun _ => 0) := Row.newAt w t 16 (fun _ => 0) b hb
theorem Row.zero4 (w : World) (t : TypeId) (b : Nat) (hb : b = w.heap.size) : Row (w.alloc (.cells #[.int .i64 0, .int .i64 0, .int .i64 0, .int .i64 0] t)) b t 4 (fun _ => 0) := Row.newAt w t 4 (fun _ => 0) b hb
theorem below_step {W a b : World} (h : Below W.heap.size W a) (k : Below a.heap.size a b) : Below W.heap.size W b := h.trans (k.mono h.size)
theorem below_new {W a : World} (h : Below W.heap.size W a) (o : Obj) : Below W.heap.size W (a.alloc o) := h.alloc h.size o
theorem below_setRow {B : Nat} {a w : World} (h : Below B a w) {g : Nat} (hg : B ≤ g) (c : Array Value) : Below B a (w.setRow g c) :=
  h.trans ⟨rfl, rfl, rfl, by simp, fun k hk => setRow_other w g k c (by omega)⟩
theorem Row.setRow {w : World} {g : Nat} {t : TypeId} {n : Nat} {f0 : Nat → Int} (h : Row w g t n f0) (f : Nat → Int) : Row (w.setRow g (cs n f)) g t n f := ⟨setRow_heap w g _ _ t _ h.eq⟩
theorem Row.setRowOther {w : World} {b : Nat} {t : TypeId} {n : Nat} {f : Nat → Int} (h : Row w b t n f) (g : Nat) (c : Array Value) (hne : b ≠ g) : Row (w.setRow g c) b t n f := ⟨(setRow_other w g b c hne).trans h.eq⟩
section
variable {P : Program} {ops : Array Oper} {rest : List Oper} {o : Oper} {a : Act} {w : World} {Q : Exit → Act → World → Prop}
/-- a whole row is read -/
theorem wp_load_Row (hgd : o.guard = none) (ty : TypeId) (x : Operand) (ho : o.op = .load ty x) (g : Nat) (hx : a.eval x = .pointer (some ⟨g, 0, none⟩)) {t : TypeId} {n : Nat} {f : Nat → Int} {d : TypeDesc}
    (hg : Row w g t n f) (hu : P.underlying ty = some d) (hd : (match d with | .struct _ | .array _ _ => true | _ => false) = true) (hi : (P.info? ty).map (·.size) = some n)
    (h : wpList P ops Q rest (a.put o.dst (.agg (cs n f))) w) : wpList P ops Q (o :: rest) a w :=
  wpList_load_row hgd ty x ho g hx t (cs n f) (0, 0) d hg.eq hu hd (by rw [cs_size]; exact hi) h
/-- a whole row is written -/
theorem wp_store_Row (hgd : o.guard = none) (ty : TypeId) (x y : Operand) (ho : o.op = .store ty x y) (g : Nat) (hx : a.eval x = .pointer (some ⟨g, 0, none⟩)) {n : Nat} {f : Nat → Int} (hy : a.eval y = .agg (cs n f)) {t : TypeId} {f0 : Nat → Int}
    (hg : Row w g t n f0) (hi : (P.info? ty).map (·.size) = some n)
    (h : wpList P ops Q rest (a.put o.dst undef) (w.setRow g (cs n f))) : wpList P ops Q (o :: rest) a w :=
  wpList_store_row hgd ty x y ho g (cs n f) hx hy t (cs n f0) hg.eq (by rw [cs_size]; exact hi) (by rw [cs_size, cs_size]) (cs_one n f) h
/-- a whole row is written into the block just laid -/
theorem wp_store_New {w0 : World} {c : Array Value} {t : TypeId} (hgd : o.guard = none) (ty : TypeId) (x y : Operand) (ho : o.op = .store ty x y) (hx : a.eval x = .pointer (some ⟨w0.heap.size, 0, none⟩)) {n : Nat} {f : Nat → Int} (hy : a.eval y = .agg (cs n f))
    (hc : c = cs n fun _ => 0) (hi : (P.info? ty).map (·.size) = some n)
    (h : wpList P ops Q rest (a.put o.dst undef) (w0.alloc (.cells (cs n f) t))) : wpList P ops Q (o :: rest) a (w0.alloc (.cells c t)) := by
  subst hc
  refine wp_store_Row hgd ty x y ho w0.heap.size hx hy (Row.new w0 t n _) hi ?_
  have e : (w0.alloc (.cells (cs n fun _ => 0) t)).setRow w0.heap.size (cs n f) = w0.alloc (.cells (cs n f) t) := by
    unfold World.setRow World.alloc
    congr 1
    apply Array.ext
    · simp
    · intro i h1 h2
      rw [Array.getElem_modify]
      by_cases e : w0.heap.size = i
      · subst e; simp
      · have : i < w0.heap.size := by simp at h2; omega
        simp [e, Array.getElem_push_lt this]
  rw [e]; exact h
/-- what comes back is a row -/
theorem ret_Row {fn : Func} {R : Ending → World → Prop} {p : Tmp} {ty : TypeId} (h : fn.results = #[.cell p ty]) (g : Nat) (hp : a.tmps.getD p undef = .pointer (some ⟨g, 0, none⟩)) {t : TypeId} {n : Nat} {f : Nat → Int} {d : TypeDesc}
    (hg : Row w g t n f) (hu : P.underlying ty = some d) (hd : (match d with | .struct _ | .array _ _ => true | _ => false) = true) (hi : (P.info? ty).map (·.size) = some n)
    (hdef : a.defers = []) (hR : R (.returned (.agg (cs n f))) w) : bodyPost P fn R .ret a w :=
  bodyPost_ret (results_cell_row h a.tmps w g t (cs n f) (0, 0) d hp hg.eq hu hd (by rw [cs_size]; exact hi)) hdef hR
theorem ret_Row_tmp {fn : Func} {R : Ending → World → Prop} {p u : Tmp} {ty : TypeId} (h : fn.results = #[.cell p ty, .tmp u]) (g : Nat) (hp : a.tmps.getD p undef = .pointer (some ⟨g, 0, none⟩)) {t : TypeId} {n : Nat} {f : Nat → Int} {d : TypeDesc}
    (hg : Row w g t n f) (hu : P.underlying ty = some d) (hd : (match d with | .struct _ | .array _ _ => true | _ => false) = true) (hi : (P.info? ty).map (·.size) = some n)
    (hdef : a.defers = []) (hR : R (.returned (.tuple #[.agg (cs n f), a.tmps.getD u undef])) w) : bodyPost P fn R .ret a w := by
  refine bodyPost_ret (v := .tuple #[.agg (cs n f), a.tmps.getD u undef]) ?_ hdef hR
  rw [results_cell_tmp h, hp]
  simp only [asAddr, Sem.run_pure, Result.andThen]
  rw [run_loadVar_row w g t ty (cs n f) (0, 0) d hg.eq hu hd (by rw [cs_size]; exact hi)]
end

theorem Row.setAt {w : World} {b : Nat} {t : TypeId} {n : Nat} {f : Nat → Int} (h : Row w b t n f) (g i : Nat) (v : Value) (hne : b ≠ g) : Row (w.setCell ⟨g, i, none⟩ v) b t n f := h.setOther ⟨g, i, none⟩ v hne
theorem below_setAt {B : Nat} {a w : World} (h : Below B a w) (g i : Nat) (hg : B ≤ g) (v : Value) : Below B a (w.setCell ⟨g, i, none⟩ v) := h.setCell (p := ⟨g, i, none⟩) hg v
theorem run_index_cs {P : Program} (w : World) (T E n : Nat) (f : Nat → Int) (k : Nat) (kd : IntKind) (hk : k < n) (hu : P.underlying T = some (.array n E)) (he : P.underlying E = some (.int .i64)) (hi : (P.info? E).map (·.size) = some 1) :
    (Instr.index T (.agg (cs n f)) (.int kd (k : Int))).run P w = .ok (.int .i64 (f k)) w := by
  cases hq : P.info? E with
  | none => simp [hq] at hi
  | some i =>
    have hs : i.size = 1 := by simpa [hq] using hi
    simp [Instr.index, asIntOf, run_underlying hu, sizeOf, typeInfo, hq, hs, hk, part, isAgg, run_underlying he, cs_get n f k hk]

/-! ### folds -/
def sh (k : Nat) : Int := wrap64 (2 ^ k)
/-- the values of g at the numbers below n of which b is true, joined -/
def orf (b : Nat → Bool) (g : Nat → Int) : Nat → Int
  | 0 => 0
  | k + 1 => if b k then bits .or .i64 (orf b g k) (g k) else orf b g k
def andf (b : Nat → Bool) (g : Nat → Int) : Nat → Int
  | 0 => 15
  | k + 1 => if b k then bits .and .i64 (andf b g k) (g k) else andf b g k
/-- the set of the numbers below n of which b is true -/
def mk (b : Nat → Bool) (n : Nat) : Int := orf b sh n
def has (p : Int) (k : Nat) : Bool := bits .and .i64 (p / 2 ^ k) 1 == 1
/-- the states that r leads into p -/
def dia (r : Nat → Int) (p : Int) : Int := mk (fun s => bits .and .i64 (r s) p != 0) 4
/-- all that r relates to a state of p -/
def img (r : Nat → Int) (p : Int) : Int := orf (has p) r 4
def box (r : Nat → Int) (p : Int) : Int := mk (fun s => bits .andNot .i64 (r s) p == 0) 4
/-- r and then q -/
def comp (r q : Nat → Int) : Nat → Int := fun s => img q (r s)
/-- the turned relation -/
def turn (r : Nat → Int) : Nat → Int := fun s => mk (fun t => has (r t) s) 4
/-- a text, empty if something is not so -/
def orNone (b : Bool) (s : ByteArray) : ByteArray := if b then s else ⟨#[]⟩
/-- a number, -1 if something is not so -/
def orMinus (b : Bool) (n : Int) : Int := if b then n else -1
def notp (p : Int) : Int := bits .andNot .i64 15 p

/-! ### digits -/
def hexes : ByteArray := ⟨#[48, 49, 50, 51, 52, 53, 54, 55, 56, 57, 97, 98, 99, 100, 101, 102]⟩
/-- a digit's value, -1 for another byte -/
def hx (c : UInt8) : Int := firstIdx hexes c
def dg (n : Int) : UInt8 := hexes.data.toList.getD n.toNat 0
def dgs (n : Int) : ByteArray := ⟨#[dg n]⟩
/-- the text of the digits of f -/
def txt (n : Nat) (f : Nat → Int) : ByteArray := ⟨((List.range n).map fun (k : Nat) => dg (f k)).toArray⟩
def bt (s : ByteArray) (k : Nat) : UInt8 := s.data.toList.getD k 0
/-- the digit's value at a place; 0 where there is none -/
def val (s : ByteArray) (k : Nat) : Int := if 0 ≤ hx (bt s k) then hx (bt s k) else 0
/-- a text of n digits -/
def okTxt (n : Nat) (s : ByteArray) : Bool := decide (s.size = n) && (List.range n).all fun k => decide (0 ≤ hx (bt s k))

theorem extract_dgs (n : Int) (h0 : 0 ≤ n) (h1 : n ≤ 15) : hexes.extract n.toNat (n + 1).toNat = dgs n := by
  have h : n = 0 ∨ n = 1 ∨ n = 2 ∨ n = 3 ∨ n = 4 ∨ n = 5 ∨ n = 6 ∨ n = 7 ∨ n = 8 ∨ n = 9 ∨ n = 10 ∨ n = 11 ∨ n = 12 ∨ n = 13 ∨ n = 14 ∨ n = 15 := by omega
  rcases h with rfl | rfl | rfl | rfl | rfl | rfl | rfl | rfl | rfl | rfl | rfl | rfl | rfl | rfl | rfl | rfl <;> rfl
theorem txt_zero (f : Nat → Int) : txt 0 f = ⟨#[]⟩ := rfl
@[go_sem] theorem txt_size (n : Nat) (f : Nat → Int) : (txt n f).size = n := by simp [txt, ByteArray.size]
@[go_sem] theorem dgs_size (n : Int) : (dgs n).size = 1 := rfl
theorem txt_succ (n : Nat) (f : Nat → Int) : txt n f ++ dgs (f n) = txt (n + 1) f := by
  apply ByteArray.ext
  simp [txt, dgs, List.range_succ]
theorem txt_ext {n : Nat} {f g : Nat → Int} (h : ∀ k, k < n → f k = g k) : txt n f = txt n g := by
  unfold txt
  exact congrArg (fun l : List UInt8 => (⟨l.toArray⟩ : ByteArray)) (List.map_congr_left fun k hk => by rw [h k (List.mem_range.1 hk)])
theorem u8_back (c : UInt8) : ((c.toNat : Int)).toNat.toUInt8 = c := by simp
theorem hx_all : ∀ n : Fin 256, -1 ≤ hx (UInt8.ofNat n.val) ∧ hx (UInt8.ofNat n.val) ≤ 15 := by decide +kernel
theorem hx_range (c : UInt8) : -1 ≤ hx c ∧ hx c ≤ 15 := by
  have h := hx_all ⟨c.toNat, c.toNat_lt⟩
  simpa using h
theorem hx_dg_all : ∀ n : Fin 16, hx (dg (n.val : Int)) = (n.val : Int) := by decide +kernel
theorem hx_dg (n : Int) (h0 : 0 ≤ n) (h1 : n ≤ 15) : hx (dg n) = n := by
  have h := hx_dg_all ⟨n.toNat, by omega⟩
  simp only [show ((n.toNat : Nat) : Int) = n by omega] at h
  exact h

/-- a table of conditions -/
def Cond (f : Nat → Int) : Prop := ∀ k, 0 ≤ f k ∧ f k ≤ 15
theorem val_ok (s : ByteArray) : Cond (val s) := by
  intro k
  have h := hx_range (bt s k)
  unfold val
  split <;> omega
theorem bt_txt (n : Nat) (f : Nat → Int) (k : Nat) (h : k < n) : bt (txt n f) k = dg (f k) := by simp [bt, txt, h]
theorem val_txt (n : Nat) (f : Nat → Int) (hf : Cond f) (k : Nat) (h : k < n) : val (txt n f) k = f k := by
  have := hf k
  unfold val
  rw [bt_txt n f k h, hx_dg _ this.1 this.2, if_pos this.1]
theorem okTxt_txt (n : Nat) (f : Nat → Int) (hf : Cond f) : okTxt n (txt n f) = true := by
  simp only [okTxt, txt_size, decide_true, Bool.true_and, List.all_eq_true, List.mem_range, decide_eq_true_eq]
  intro k hk
  rw [bt_txt n f k hk, hx_dg _ (hf k).1 (hf k).2]
  exact (hf k).1
/-- what the program reads of a text of n digits: nothing but noughts where it is none -/
def tab (n : Nat) (s : ByteArray) : Nat → Int := if okTxt n s then val s else fun _ => 0
theorem tab_ok (n : Nat) (s : ByteArray) : Cond (tab n s) := by
  unfold tab; split
  · exact val_ok s
  · intro k; exact ⟨Int.le_refl 0, by show (0 : Int) ≤ 15; decide⟩
theorem tab_val {n : Nat} {s : ByteArray} (h : okTxt n s = true) : tab n s = val s := by simp [tab, h]
theorem tab_none {n : Nat} {s : ByteArray} (h : okTxt n s = false) : tab n s = fun _ => 0 := by simp [tab, h]
theorem okTxt_size {n : Nat} {s : ByteArray} (h : okTxt n s = true) : s.size = n := by
  simp only [okTxt, Bool.and_eq_true, decide_eq_true_eq] at h; exact h.1
theorem okTxt_hx {n : Nat} {s : ByteArray} (h : okTxt n s = true) (k : Nat) (hk : k < n) : 0 ≤ hx (bt s k) := by
  simp only [okTxt, Bool.and_eq_true, List.all_eq_true, List.mem_range, decide_eq_true_eq] at h; exact h.2 k hk
theorem okTxt_val {n : Nat} {s : ByteArray} (h : okTxt n s = true) (k : Nat) (hk : k < n) : val s k = hx (bt s k) := by
  unfold val; rw [if_pos (okTxt_hx h k hk)]
@[go_sem] theorem bt_get (s : ByteArray) (k : Nat) (h : k < s.size) : s[k] = bt s k := by
  have h' : k < s.data.toList.length := by simpa using h
  simp only [bt, List.getD_eq_getElem?_getD, List.getElem?_eq_getElem h', Option.getD_some]
  rfl

/-! ### functions handed on -/
section
variable (P : Program)
/-- in every world that w has grown to, calling g with a number k below n hands back b k -/
def AsksP (g : FuncId) (bv lb : Array Value) (n : Nat) (b : Nat → Bool) (w : World) : Prop :=
  ∀ (W : World) (k : Nat), k < n → Below w.heap.size w W → Calls P g (bv.push (.int .i64 k) ++ lb) W fun e W' => e = .returned (.bool (b k)) ∧ Below W.heap.size W W'
/-- .. with two numbers below n .. -/
def AsksR (g : FuncId) (bv lb : Array Value) (n : Nat) (b : Nat → Nat → Bool) (w : World) : Prop :=
  ∀ (W : World) (s t : Nat), s < n → t < n → Below w.heap.size w W → Calls P g (bv ++ (#[.int .i64 s, .int .i64 t] ++ lb)) W fun e W' => e = .returned (.bool (b s t)) ∧ Below W.heap.size W W'
/-- .. hands back the number f k -/
def AsksI (g : FuncId) (bv lb : Array Value) (n : Nat) (f : Nat → Int) (w : World) : Prop :=
  ∀ (W : World) (k : Nat), k < n → Below w.heap.size w W → Calls P g (bv.push (.int .i64 k) ++ lb) W fun e W' => e = .returned (.int .i64 (f k)) ∧ Below W.heap.size W W'
end

/-! ### what a walk ends in -/
theorem ret_int {k : IntKind} {a b : Int} (h : a = b) : Ending.returned (.int k a) = .returned (.int k b) := by rw [h]
theorem ret_bool {a b : Bool} (h : a = b) : Ending.returned (.bool a) = .returned (.bool b) := by rw [h]
theorem ret_str {a b : ByteArray} (h : a = b) : Ending.returned (.string a) = .returned (.string b) := by rw [h]
theorem ret_agg {a b : Array Value} (h : a = b) : Ending.returned (.agg a) = .returned (.agg b) := by rw [h]
theorem pack {W w' : World} {v : Value} {e : Ending} (h : e = .returned v) (hb : Below W.heap.size W w') : e = .returned v ∧ Below W.heap.size W w' := ⟨h, hb⟩
end Go.Proofs.YtaeibhpkcikaaaaDoor
