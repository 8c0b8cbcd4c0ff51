/- Plain functions on conditions, tables of numbers and texts of digits, and how they stand in memory. No program in sight. -/
import Derived.WalkKit
import Derived.Deep.QuietTactic
import Derived.BigQuiet
import Derived.WalkLawsBesides
import Derived.Lib.Hide
import Derived.Shelf.Abstract
import Derived.Test.YtaeibhpkcikaaaaGreatDoorRows
import Derived.ProofKit
import Derived.OpenShut
import Derived.ShutString
import Derived.ChangeOld
import Derived.WalkSpells
/- Pure -/
namespace Go.Proofs.YtaeibhpkcikaaaaGreatDoor
set_option linter.unusedVariables false
set_option linter.unusedSimpArgs false
open Go.RowKit

/-! ### rows of numbers -/
def cs (n : Nat) (f : Nat → Int) : Array Value := ((List.range n).map fun (k : Nat) => Value.int .i64 (f k)).toArray
@[go_sem] theorem cs_size (n : Nat) (f : Nat → Int) : (cs n f).size = n := by simp [cs]
@[go_sem] theorem cs_get (n : Nat) (f : Nat → Int) (k : Nat) (h : k < n) : (cs n f)[k]? = some (.int .i64 (f k)) := by simp [cs, h]
@[go_sem] theorem cs_getElem (n : Nat) (f : Nat → Int) (k : Nat) (h : k < (cs n f).size) : (cs n f)[k] = .int .i64 (f k) := by simp [cs]
theorem cs_ext {n : Nat} {f g : Nat → Int} (h : ∀ k, k < n → f k = g k) : cs n f = cs n g := by
  unfold cs
  exact congrArg List.toArray (List.map_congr_left fun k hk => by rw [h k (List.mem_range.1 hk)])
def upd (f : Nat → Int) (i : Nat) (v : Int) : Nat → Int := fun k => if k = i then v else f k
theorem upd_same (f : Nat → Int) (i : Nat) (v : Int) : upd f i v i = v := by simp [upd]
theorem upd_other (f : Nat → Int) (i : Nat) (v : Int) (k : Nat) (h : k ≠ i) : upd f i v k = f k := by simp [upd, h]
@[go_sem] theorem cs_set (n : Nat) (f : Nat → Int) (i : Nat) (v : Int) : (cs n f).setIfInBounds i (.int .i64 v) = cs n (upd f i v) := by
  apply Array.ext
  · simp [cs_size]
  · intro k h1 h2
    have hk : k < n := by simpa [cs_size] using h2
    simp only [cs, upd, List.getElem_toArray, List.getElem_map, List.getElem_range]
    by_cases e : i = k
    · simp [e]
    · simp [e, show ¬ k = i from fun h => e h.symm]
theorem cs_one (n : Nat) (f : Nat → Int) : (cs n f).all (·.oneCell') = true := by simp [cs, Value.oneCell']
theorem cs4 (f : Nat → Int) : cs 4 f = #[.int .i64 (f 0), .int .i64 (f 1), .int .i64 (f 2), .int .i64 (f 3)] := rfl
theorem cs4_zero : cs 4 (fun _ => 0) = #[.int .i64 0, .int .i64 0, .int .i64 0, .int .i64 0] := rfl

theorem cs16_zero : cs 16 (fun _ => 0) = #[.int .i64 0, .int .i64 0, .int .i64 0, .int .i64 0, .int .i64 0, .int .i64 0, .int .i64 0, .int .i64 0, .int .i64 0, .int .i64 0, .int .i64 0, .int .i64 0, .int .i64 0, .int .i64 0, .int .i64 0, .int .i64 0] := rfl

/-- block b is a row that reads f -/
structure Row (w : World) (b : Nat) (t : TypeId) (n : Nat) (f : Nat → Int) : Prop where
  eq : w.heap[b]? = some (.cells (cs n f) t (0, 0))
section
variable {w : World} {b : Nat} {t : TypeId} {n : Nat} {f : Nat → Int}
theorem Row.cell (h : Row w b t n f) (k : Nat) (hk : k < n) : w.cell? ⟨b, k, none⟩ = some (.int .i64 (f k)) := by
  rw [cell_of_row w b k _ t (0, 0) h.eq]; exact cs_get n f k hk
theorem Row.free (h : Row w b t n f) (k : Nat) : w.frozen? ⟨b, k, none⟩ = false := frozen_of_row w b k _ t h.eq
theorem Row.below {w' : World} {B : Nat} (h : Row w b t n f) (hb : Below B w w') (hB : b < B) : Row w' b t n f := ⟨(hb.block b hB).trans h.eq⟩
theorem Row.lt (h : Row w b t n f) : b < w.heap.size := by
  have h := h.eq
  rcases Nat.lt_or_ge b w.heap.size with hl | hg
  · exact hl
  · simp [Array.getElem?_eq_none hg] at h
theorem Row.grown {w' : World} (h : Row w b t n f) (hb : Below w.heap.size w w') : Row w' b t n f := h.below hb h.lt
theorem Row.new (w : World) (t : TypeId) (n : Nat) (f : Nat → Int) : Row (w.alloc (.cells (cs n f) t)) w.heap.size t n f := ⟨heap_alloc_new w _⟩
theorem Row.newAt (w : World) (t : TypeId) (n : Nat) (f : Nat → Int) (b : Nat) (hb : b = w.heap.size) : Row (w.alloc (.cells (cs n f) t)) b t n f := by subst hb; exact Row.new w t n f
theorem Row.old (h : Row w b t n f) (o : Obj) : Row (w.alloc o) b t n f := ⟨(Below.heap_alloc w o b h.lt).trans h.eq⟩
theorem Row.set (h : Row w b t n f) (i : Nat) (v : Int) : Row (w.setCell ⟨b, i, none⟩ (.int .i64 v)) b t n (upd f i v) := by
  constructor; rw [← cs_set]; exact heap_setCell_same w b i _ t _ h.eq
theorem Row.setOther (h : Row w b t n f) (a : Addr) (v : Value) (hne : b ≠ a.block) : Row (w.setCell a v) b t n f :=
  ⟨(heap_setCell_other w a b v hne).trans h.eq⟩
theorem Row.drew (h : Row w b t n f) : Row w.drew b t n f := ⟨h.eq⟩
theorem Row.drewN (h : Row w b t n f) (k : Nat) : Row (w.drewN k) b t n f := ⟨h.eq⟩
theorem Row.ext {g : Nat → Int} (h : Row w b t n f) (e : ∀ k, k < n → f k = g k) : Row w b t n g := by
  constructor; rw [← cs_ext e]; exact h.eq
end
theorem Row.zero16 (w : World) (t : TypeId) (b : Nat) (hb : b = w.heap.size) : Row (w.alloc (.cells #[.int .i64 0, .int .i64 0, .int .i64 0, .int .i64 0, .int .i64 0, .int .i64 0, .int .i64 0, .int .i64 0, .int .i64 0, .int .i64 0, .int .i64 0, .int .i64 0, .int .i64 0, .int .i64 0, .int .i64 0, .int .i64 0] t)) b t 16 (fun _ => 0) := Row.newAt w t 16 (fun _ => 0) b hb
theorem Row.zero4 (w : World) (t : TypeId) (b : Nat) (hb : b = w.heap.size) : Row (w.alloc (.cells #[.int .i64 0, .int .i64 0, .int .i64 0, .int .i64 0] t)) b t 4 (fun _ => 0) := Row.newAt w t 4 (fun _ => 0) b hb
theorem below_step {W a b : World} (h : Below W.heap.size W a) (k : Below a.heap.size a b) : Below W.heap.size W b := h.trans (k.mono h.size)
theorem below_new {W a : World} (h : Below W.heap.size W a) (o : Obj) : Below W.heap.size W (a.alloc o) := h.alloc h.size o
theorem below_setRow {B : Nat} {a w : World} (h : Below B a w) {g : Nat} (hg : B ≤ g) (c : Array Value) : Below B a (w.setRow g c) :=
  h.trans ⟨rfl, rfl, rfl, by simp, fun k hk => setRow_other w g k c (by omega)⟩
theorem Row.setRow {w : World} {g : Nat} {t : TypeId} {n : Nat} {f0 : Nat → Int} (h : Row w g t n f0) (f : Nat → Int) : Row (w.setRow g (cs n f)) g t n f := ⟨setRow_heap w g _ _ t _ h.eq⟩
theorem Row.setRowOther {w : World} {b : Nat} {t : TypeId} {n : Nat} {f : Nat → Int} (h : Row w b t n f) (g : Nat) (c : Array Value) (hne : b ≠ g) : Row (w.setRow g c) b t n f := ⟨(setRow_other w g b c hne).trans h.eq⟩
section
variable {P : Program} {ops : Array Oper} {rest : List Oper} {o : Oper} {a : Act} {w : World} {Q : Exit → Act → World → Prop}
/-- a whole row is read -/
theorem wp_load_Row (hgd : o.guard = none) (ty : TypeId) (x : Operand) (ho : o.op = .load ty x) (g : Nat) (hx : a.eval x = .pointer (some ⟨g, 0, none⟩)) {t : TypeId} {n : Nat} {f : Nat → Int} {d : TypeDesc}
    (hg : Row w g t n f) (hu : P.underlying ty = some d) (hd : (match d with | .struct _ | .array _ _ => true | _ => false) = true) (hi : (P.info? ty).map (·.size) = some n)
    (h : wpList P ops Q rest (a.put o.dst (.agg (cs n f))) w) : wpList P ops Q (o :: rest) a w :=
  wpList_load_row hgd ty x ho g hx t (cs n f) (0, 0) d hg.eq hu hd (by rw [cs_size]; exact hi) h
/-- a whole row is written -/
theorem wp_store_Row (hgd : o.guard = none) (ty : TypeId) (x y : Operand) (ho : o.op = .store ty x y) (g : Nat) (hx : a.eval x = .pointer (some ⟨g, 0, none⟩)) {n : Nat} {f : Nat → Int} (hy : a.eval y = .agg (cs n f)) {t : TypeId} {f0 : Nat → Int}
    (hg : Row w g t n f0) (hi : (P.info? ty).map (·.size) = some n)
    (h : wpList P ops Q rest (a.put o.dst undef) (w.setRow g (cs n f))) : wpList P ops Q (o :: rest) a w :=
  wpList_store_row hgd ty x y ho g (cs n f) hx hy t (cs n f0) hg.eq (by rw [cs_size]; exact hi) (by rw [cs_size, cs_size]) (cs_one n f) h
/-- a whole row is written into the block just laid -/
theorem wp_store_New {w0 : World} {c : Array Value} {t : TypeId} (hgd : o.guard = none) (ty : TypeId) (x y : Operand) (ho : o.op = .store ty x y) (hx : a.eval x = .pointer (some ⟨w0.heap.size, 0, none⟩)) {n : Nat} {f : Nat → Int} (hy : a.eval y = .agg (cs n f))
    (hc : c = cs n fun _ => 0) (hi : (P.info? ty).map (·.size) = some n)
    (h : wpList P ops Q rest (a.put o.dst undef) (w0.alloc (.cells (cs n f) t))) : wpList P ops Q (o :: rest) a (w0.alloc (.cells c t)) := by
  subst hc
  refine wp_store_Row hgd ty x y ho w0.heap.size hx hy (Row.new w0 t n _) hi ?_
  have e : (w0.alloc (.cells (cs n fun _ => 0) t)).setRow w0.heap.size (cs n f) = w0.alloc (.cells (cs n f) t) := by
    unfold World.setRow World.alloc
    congr 1
    apply Array.ext
    · simp
    · intro i h1 h2
      rw [Array.getElem_modify]
      by_cases e : w0.heap.size = i
      · subst e; simp
      · have : i < w0.heap.size := by simp at h2; omega
        simp [e, Array.getElem_push_lt this]
  rw [e]; exact h
/-- what comes back is a row -/
theorem ret_Row {fn : Func} {R : Ending → World → Prop} {p : Tmp} {ty : TypeId} (h : fn.results = #[.cell p ty]) (g : Nat) (hp : a.tmps.getD p undef = .pointer (some ⟨g, 0, none⟩)) {t : TypeId} {n : Nat} {f : Nat → Int} {d : TypeDesc}
    (hg : Row w g t n f) (hu : P.underlying ty = some d) (hd : (match d with | .struct _ | .array _ _ => true | _ => false) = true) (hi : (P.info? ty).map (·.size) = some n)
    (hdef : a.defers = []) (hR : R (.returned (.agg (cs n f))) w) : bodyPost P fn R .ret a w :=
  bodyPost_ret (results_cell_row h a.tmps w g t (cs n f) (0, 0) d hp hg.eq hu hd (by rw [cs_size]; exact hi)) hdef hR
theorem ret_Row_tmp {fn : Func} {R : Ending → World → Prop} {p u : Tmp} {ty : TypeId} (h : fn.results = #[.cell p ty, .tmp u]) (g : Nat) (hp : a.tmps.getD p undef = .pointer (some ⟨g, 0, none⟩)) {t : TypeId} {n : Nat} {f : Nat → Int} {d : TypeDesc}
    (hg : Row w g t n f) (hu : P.underlying ty = some d) (hd : (match d with | .struct _ | .array _ _ => true | _ => false) = true) (hi : (P.info? ty).map (·.size) = some n)
    (hdef : a.defers = []) (hR : R (.returned (.tuple #[.agg (cs n f), a.tmps.getD u undef])) w) : bodyPost P fn R .ret a w := by
  refine bodyPost_ret (v := .tuple #[.agg (cs n f), a.tmps.getD u undef]) ?_ hdef hR
  rw [results_cell_tmp h, hp]
  simp only [asAddr, Sem.run_pure, Result.andThen]
  rw [run_loadVar_row w g t ty (cs n f) (0, 0) d hg.eq hu hd (by rw [cs_size]; exact hi)]
end

theorem Row.setAt {w : World} {b : Nat} {t : TypeId} {n : Nat} {f : Nat → Int} (h : Row w b t n f) (g i : Nat) (v : Value) (hne : b ≠ g) : Row (w.setCell ⟨g, i, none⟩ v) b t n f := h.setOther ⟨g, i, none⟩ v hne
theorem below_setAt {B : Nat} {a w : World} (h : Below B a w) (g i : Nat) (hg : B ≤ g) (v : Value) : Below B a (w.setCell ⟨g, i, none⟩ v) := h.setCell (p := ⟨g, i, none⟩) hg v
theorem run_index_cs {P : Program} (w : World) (T E n : Nat) (f : Nat → Int) (k : Nat) (kd : IntKind) (hk : k < n) (hu : P.underlying T = some (.array n E)) (he : P.underlying E = some (.int .i64)) (hi : (P.info? E).map (·.size) = some 1) :
    (Instr.index T (.agg (cs n f)) (.int kd (k : Int))).run P w = .ok (.int .i64 (f k)) w := by
  cases hq : P.info? E with
  | none => simp [hq] at hi
  | some i =>
    have hs : i.size = 1 := by simpa [hq] using hi
    simp [Instr.index, asIntOf, run_underlying hu, sizeOf, typeInfo, hq, hs, hk, part, isAgg, run_underlying he, cs_get n f k hk]

/-! ### folds -/
def sh (k : Nat) : Int := wrap64 (2 ^ k)
/-- the values of g at the numbers below n of which b is true, joined -/
def orf (b : Nat → Bool) (g : Nat → Int) : Nat → Int
  | 0 => 0
  | k + 1 => if b k then bits .or .i64 (orf b g k) (g k) else orf b g k
def andf (b : Nat → Bool) (g : Nat → Int) : Nat → Int
  | 0 => 15
  | k + 1 => if b k then bits .and .i64 (andf b g k) (g k) else andf b g k
/-- the set of the numbers below n of which b is true -/
def mk (b : Nat → Bool) (n : Nat) : Int := orf b sh n
def has (p : Int) (k : Nat) : Bool := bits .and .i64 (p / 2 ^ k) 1 == 1
/-- the states that r leads into p -/
def dia (r : Nat → Int) (p : Int) : Int := mk (fun s => bits .and .i64 (r s) p != 0) 4
/-- all that r relates to a state of p -/
def img (r : Nat → Int) (p : Int) : Int := orf (has p) r 4
def box (r : Nat → Int) (p : Int) : Int := mk (fun s => bits .andNot .i64 (r s) p == 0) 4
/-- r and then q -/
def comp (r q : Nat → Int) : Nat → Int := fun s => img q (r s)
/-- the turned relation -/
def turn (r : Nat → Int) : Nat → Int := fun s => mk (fun t => has (r t) s) 4
/-- a text, empty if something is not so -/
def orNone (b : Bool) (s : ByteArray) : ByteArray := if b then s else ⟨#[]⟩
/-- a number, -1 if something is not so -/
def orMinus (b : Bool) (n : Int) : Int := if b then n else -1
def notp (p : Int) : Int := bits .andNot .i64 15 p

/-! ### digits -/
def hexes : ByteArray := ⟨#[48, 49, 50, 51, 52, 53, 54, 55, 56, 57, 97, 98, 99, 100, 101, 102]⟩
/-- a digit's value, -1 for another byte -/
def hx (c : UInt8) : Int := firstIdx hexes c
def dg (n : Int) : UInt8 := hexes.data.toList.getD n.toNat 0
def dgs (n : Int) : ByteArray := ⟨#[dg n]⟩
/-- the text of the digits of f -/
def txt (n : Nat) (f : Nat → Int) : ByteArray := ⟨((List.range n).map fun (k : Nat) => dg (f k)).toArray⟩
def bt (s : ByteArray) (k : Nat) : UInt8 := s.data.toList.getD k 0
/-- the digit's value at a place; 0 where there is none -/
def val (s : ByteArray) (k : Nat) : Int := if 0 ≤ hx (bt s k) then hx (bt s k) else 0
/-- a text of n digits -/
def okTxt (n : Nat) (s : ByteArray) : Bool := decide (s.size = n) && (List.range n).all fun k => decide (0 ≤ hx (bt s k))

theorem extract_dgs (n : Int) (h0 : 0 ≤ n) (h1 : n ≤ 15) : hexes.extract n.toNat (n + 1).toNat = dgs n := by
  have h : n = 0 ∨ n = 1 ∨ n = 2 ∨ n = 3 ∨ n = 4 ∨ n = 5 ∨ n = 6 ∨ n = 7 ∨ n = 8 ∨ n = 9 ∨ n = 10 ∨ n = 11 ∨ n = 12 ∨ n = 13 ∨ n = 14 ∨ n = 15 := by omega
  rcases h with rfl | rfl | rfl | rfl | rfl | rfl | rfl | rfl | rfl | rfl | rfl | rfl | rfl | rfl | rfl | rfl <;> rfl
theorem txt_zero (f : Nat → Int) : txt 0 f = ⟨#[]⟩ := rfl
@[go_sem] theorem txt_size (n : Nat) (f : Nat → Int) : (txt n f).size = n := by simp [txt, ByteArray.size]
@[go_sem] theorem dgs_size (n : Int) : (dgs n).size = 1 := rfl
theorem txt_succ (n : Nat) (f : Nat → Int) : txt n f ++ dgs (f n) = txt (n + 1) f := by
  apply ByteArray.ext
  simp [txt, dgs, List.range_succ]
theorem txt_ext {n : Nat} {f g : Nat → Int} (h : ∀ k, k < n → f k = g k) : txt n f = txt n g := by
  unfold txt
  exact congrArg (fun l : List UInt8 => (⟨l.toArray⟩ : ByteArray)) (List.map_congr_left fun k hk => by rw [h k (List.mem_range.1 hk)])
theorem u8_back (c : UInt8) : ((c.toNat : Int)).toNat.toUInt8 = c := by simp
theorem hx_all : ∀ n : Fin 256, -1 ≤ hx (UInt8.ofNat n.val) ∧ hx (UInt8.ofNat n.val) ≤ 15 := by decide +kernel
theorem hx_range (c : UInt8) : -1 ≤ hx c ∧ hx c ≤ 15 := by
  have h := hx_all ⟨c.toNat, c.toNat_lt⟩
  simpa using h
theorem hx_dg_all : ∀ n : Fin 16, hx (dg (n.val : Int)) = (n.val : Int) := by decide +kernel
theorem hx_dg (n : Int) (h0 : 0 ≤ n) (h1 : n ≤ 15) : hx (dg n) = n := by
  have h := hx_dg_all ⟨n.toNat, by omega⟩
  simp only [show ((n.toNat : Nat) : Int) = n by omega] at h
  exact h

/-- a table of conditions -/
def Cond (f : Nat → Int) : Prop := ∀ k, 0 ≤ f k ∧ f k ≤ 15
theorem val_ok (s : ByteArray) : Cond (val s) := by
  intro k
  have h := hx_range (bt s k)
  unfold val
  split <;> omega
theorem bt_txt (n : Nat) (f : Nat → Int) (k : Nat) (h : k < n) : bt (txt n f) k = dg (f k) := by simp [bt, txt, h]
theorem val_txt (n : Nat) (f : Nat → Int) (hf : Cond f) (k : Nat) (h : k < n) : val (txt n f) k = f k := by
  have := hf k
  unfold val
  rw [bt_txt n f k h, hx_dg _ this.1 this.2, if_pos this.1]
theorem okTxt_txt (n : Nat) (f : Nat → Int) (hf : Cond f) : okTxt n (txt n f) = true := by
  simp only [okTxt, txt_size, decide_true, Bool.true_and, List.all_eq_true, List.mem_range, decide_eq_true_eq]
  intro k hk
  rw [bt_txt n f k hk, hx_dg _ (hf k).1 (hf k).2]
  exact (hf k).1
/-- what the program reads of a text of n digits: nothing but noughts where it is none -/
def tab (n : Nat) (s : ByteArray) : Nat → Int := if okTxt n s then val s else fun _ => 0
theorem tab_ok (n : Nat) (s : ByteArray) : Cond (tab n s) := by
  unfold tab; split
  · exact val_ok s
  · intro k; exact ⟨Int.le_refl 0, by show (0 : Int) ≤ 15; decide⟩
theorem tab_val {n : Nat} {s : ByteArray} (h : okTxt n s = true) : tab n s = val s := by simp [tab, h]
theorem tab_none {n : Nat} {s : ByteArray} (h : okTxt n s = false) : tab n s = fun _ => 0 := by simp [tab, h]
theorem okTxt_size {n : Nat} {s : ByteArray} (h : okTxt n s = true) : s.size = n := by
  simp only [okTxt, Bool.and_eq_true, decide_eq_true_eq] at h; exact h.1
theorem okTxt_hx {n : Nat} {s : ByteArray} (h : okTxt n s = true) (k : Nat) (hk : k < n) : 0 ≤ hx (bt s k) := by
  simp only [okTxt, Bool.and_eq_true, List.all_eq_true, List.mem_range, decide_eq_true_eq] at h; exact h.2 k hk
theorem okTxt_val {n : Nat} {s : ByteArray} (h : okTxt n s = true) (k : Nat) (hk : k < n) : val s k = hx (bt s k) := by
  unfold val; rw [if_pos (okTxt_hx h k hk)]
@[go_sem] theorem bt_get (s : ByteArray) (k : Nat) (h : k < s.size) : s[k] = bt s k := by
  have h' : k < s.data.toList.length := by simpa using h
  simp only [bt, List.getD_eq_getElem?_getD, List.getElem?_eq_getElem h', Option.getD_some]
  rfl

/-! ### functions handed on -/
section
variable (P : Program)
/-- in every world that w has grown to, calling g with a number k below n hands back b k -/
def AsksP (g : FuncId) (bv lb : Array Value) (n : Nat) (b : Nat → Bool) (w : World) : Prop :=
  ∀ (W : World) (k : Nat), k < n → Below w.heap.size w W → Calls P g (bv.push (.int .i64 k) ++ lb) W fun e W' => e = .returned (.bool (b k)) ∧ Below W.heap.size W W'
/-- .. with two numbers below n .. -/
def AsksR (g : FuncId) (bv lb : Array Value) (n : Nat) (b : Nat → Nat → Bool) (w : World) : Prop :=
  ∀ (W : World) (s t : Nat), s < n → t < n → Below w.heap.size w W → Calls P g (bv ++ (#[.int .i64 s, .int .i64 t] ++ lb)) W fun e W' => e = .returned (.bool (b s t)) ∧ Below W.heap.size W W'
/-- .. hands back the number f k -/
def AsksI (g : FuncId) (bv lb : Array Value) (n : Nat) (f : Nat → Int) (w : World) : Prop :=
  ∀ (W : World) (k : Nat), k < n → Below w.heap.size w W → Calls P g (bv.push (.int .i64 k) ++ lb) W fun e W' => e = .returned (.int .i64 (f k)) ∧ Below W.heap.size W W'
end

/-! ### what a walk ends in -/
theorem ret_int {k : IntKind} {a b : Int} (h : a = b) : Ending.returned (.int k a) = .returned (.int k b) := by rw [h]
theorem ret_bool {a b : Bool} (h : a = b) : Ending.returned (.bool a) = .returned (.bool b) := by rw [h]
theorem ret_str {a b : ByteArray} (h : a = b) : Ending.returned (.string a) = .returned (.string b) := by rw [h]
theorem ret_agg {a b : Array Value} (h : a = b) : Ending.returned (.agg a) = .returned (.agg b) := by rw [h]
theorem pack {W w' : World} {v : Value} {e : Ending} (h : e = .returned v) (hb : Below W.heap.size W w') : e = .returned v ∧ Below W.heap.size W w' := ⟨h, hb⟩
end Go.Proofs.YtaeibhpkcikaaaaGreatDoor

/- RowKit -/
namespace Go.Proofs.YtaeibhpkcikaaaaGreatDoor
set_option linter.unusedVariables false
set_option linter.unusedSimpArgs false
open Go.ChangeShapes Go.WideShapes Go.ChangeAt Go.RowKit

theorem rowOwn : ownKnob Tryz.prog.godebug = none := by kernel_rfl
theorem rowLaidOut : laidOutB Tryz.prog = true := by kernel_rfl

/-- A slice of integers that came in: it is nil; or it leads to a row of 'cap' cells, the numbers 'zs'. -/
def IsRow (k : IntKind) (w : World) (a : Option Addr) (len cap : Nat) (zs : List Int) : Prop :=
  (a = none ∧ len = 0 ∧ cap = 0 ∧ zs = []) ∨
  ∃ x, a = some x ∧ len ≤ cap ∧ cap ≤ maxLen ∧ zs.length = cap ∧ (∀ i, i < zs.length → w.cell? (x.add i) = some (.int k (zs.getD i 0))) ∧ ∀ n ∈ zs, (Lit.int k n).wf = true
end Go.Proofs.YtaeibhpkcikaaaaGreatDoor

/- Bits -/
namespace Go.Proofs.YtaeibhpkcikaaaaGreatDoor
set_option linter.unusedVariables false
set_option linter.unusedSimpArgs false
open Go.RowKit

theorem ofInt_nat (a : Nat) (ha : a < 65536) : (BitVec.ofInt 64 (a : Int)).toNat = a := by
  rw [show BitVec.ofInt 64 (a : Int) = BitVec.ofNat 64 a from by simp]
  simp; omega
theorem wrap_small (a : Nat) (ha : a < 65536) : IntKind.i64.wrap (a : Int) = a := by rw [IntKind.wrap_i64]; omega
theorem and_nat (a b : Nat) (ha : a < 65536) (hb : b < 65536) : bits .and .i64 a b = ((a &&& b : Nat) : Int) := by
  show IntKind.i64.wrap ((BitVec.ofInt 64 (a : Int) &&& BitVec.ofInt 64 (b : Int)).toNat : Nat) = _
  rw [BitVec.toNat_and, ofInt_nat a ha, ofInt_nat b hb]
  exact wrap_small _ (Nat.lt_of_le_of_lt Nat.and_le_left ha)
theorem or_nat (a b : Nat) (ha : a < 65536) (hb : b < 65536) : bits .or .i64 a b = ((a ||| b : Nat) : Int) := by
  show IntKind.i64.wrap ((BitVec.ofInt 64 (a : Int) ||| BitVec.ofInt 64 (b : Int)).toNat : Nat) = _
  rw [BitVec.toNat_or, ofInt_nat a ha, ofInt_nat b hb]
  exact wrap_small _ (Nat.or_lt_two_pow (n := 16) ha hb)
theorem not_bv (x y : BitVec 64) : x &&& ~~~y = x ^^^ (x &&& y) := by
  apply BitVec.eq_of_getLsbD_eq
  intro i hi
  simp only [BitVec.getLsbD_and, BitVec.getLsbD_not, BitVec.getLsbD_xor, hi, decide_true, Bool.true_and]
  cases x.getLsbD i <;> cases y.getLsbD i <;> rfl
theorem dif_nat (a b : Nat) (ha : a < 65536) (hb : b < 65536) : bits .andNot .i64 a b = ((a ^^^ (a &&& b) : Nat) : Int) := by
  show IntKind.i64.wrap ((BitVec.ofInt 64 (a : Int) &&& ~~~BitVec.ofInt 64 (b : Int)).toNat : Nat) = _
  rw [not_bv, BitVec.toNat_xor, BitVec.toNat_and, ofInt_nat a ha, ofInt_nat b hb]
  exact wrap_small _ (Nat.xor_lt_two_pow (n := 16) ha (Nat.lt_of_le_of_lt Nat.and_le_left ha))

/-- a number below 2^n -/
def Fit (n : Nat) (p : Int) : Prop := 0 ≤ p ∧ p < 2 ^ n
theorem fit_nat {n : Nat} {p : Int} (h : Fit n p) : ∃ a : Nat, p = a ∧ a < 2 ^ n := by
  obtain ⟨a, rfl⟩ := Int.eq_ofNat_of_zero_le h.1
  exact ⟨a, rfl, by have := h.2; exact_mod_cast this⟩
theorem fit_of_nat {n a : Nat} (h : a < 2 ^ n) : Fit n (a : Int) := ⟨by omega, by exact_mod_cast h⟩
theorem fit_mono {m n : Nat} {p : Int} (h : Fit m p) (hmn : m ≤ n) : Fit n p := by
  obtain ⟨a, rfl, ha⟩ := fit_nat h
  exact fit_of_nat (Nat.lt_of_lt_of_le ha (Nat.pow_le_pow_right (by decide) hmn))
theorem pow16 {n a : Nat} (hn : n ≤ 16) (h : a < 2 ^ n) : a < 65536 := Nat.lt_of_lt_of_le h (Nat.pow_le_pow_right (by decide) hn : 2 ^ n ≤ 2 ^ 16)
theorem fit_and {n : Nat} (hn : n ≤ 16) {p q : Int} (h : Fit n p) (k : Fit n q) : Fit n (bits .and .i64 p q) := by
  obtain ⟨a, rfl, ha⟩ := fit_nat h; obtain ⟨b, rfl, hb⟩ := fit_nat k
  rw [and_nat a b (pow16 hn ha) (pow16 hn hb)]; exact fit_of_nat (Nat.lt_of_le_of_lt Nat.and_le_left ha)
theorem fit_or {n : Nat} (hn : n ≤ 16) {p q : Int} (h : Fit n p) (k : Fit n q) : Fit n (bits .or .i64 p q) := by
  obtain ⟨a, rfl, ha⟩ := fit_nat h; obtain ⟨b, rfl, hb⟩ := fit_nat k
  rw [or_nat a b (pow16 hn ha) (pow16 hn hb)]; exact fit_of_nat (Nat.or_lt_two_pow ha hb)
theorem fit_dif {n : Nat} (hn : n ≤ 16) {p q : Int} (h : Fit n p) (k : Fit n q) : Fit n (bits .andNot .i64 p q) := by
  obtain ⟨a, rfl, ha⟩ := fit_nat h; obtain ⟨b, rfl, hb⟩ := fit_nat k
  rw [dif_nat a b (pow16 hn ha) (pow16 hn hb)]; exact fit_of_nat (Nat.xor_lt_two_pow ha (Nat.lt_of_le_of_lt Nat.and_le_left ha))

theorem has_nat (a k : Nat) (ha : a < 65536) : has (a : Int) k = a.testBit k := by
  unfold has
  have e : ((a : Int) / 2 ^ k) = ((a / 2 ^ k : Nat) : Int) := by push_cast; rfl
  have hlt : a / 2 ^ k < 65536 := Nat.lt_of_le_of_lt (Nat.div_le_self _ _) ha
  rw [e, show (1 : Int) = ((1 : Nat) : Int) from rfl, and_nat _ 1 hlt (by decide)]
  rw [Nat.testBit, Nat.shiftRight_eq_div_pow, Nat.and_comm]
  have h2 : 1 &&& a / 2 ^ k = 0 ∨ 1 &&& a / 2 ^ k = 1 := by
    have := @Nat.and_le_left 1 (a / 2 ^ k); omega
  rcases h2 with h | h <;> simp [h]
theorem has_and {p q : Int} (h : Fit 16 p) (k : Fit 16 q) (i : Nat) : has (bits .and .i64 p q) i = (has p i && has q i) := by
  obtain ⟨a, rfl, ha⟩ := fit_nat h; obtain ⟨b, rfl, hb⟩ := fit_nat k
  rw [and_nat a b ha hb, has_nat _ _ (Nat.lt_of_le_of_lt Nat.and_le_left ha), has_nat a i ha, has_nat b i hb, Nat.testBit_and]
theorem has_or {p q : Int} (h : Fit 16 p) (k : Fit 16 q) (i : Nat) : has (bits .or .i64 p q) i = (has p i || has q i) := by
  obtain ⟨a, rfl, ha⟩ := fit_nat h; obtain ⟨b, rfl, hb⟩ := fit_nat k
  rw [or_nat a b ha hb, has_nat _ _ (Nat.or_lt_two_pow (n := 16) ha hb), has_nat a i ha, has_nat b i hb, Nat.testBit_or]
theorem has_dif {p q : Int} (h : Fit 16 p) (k : Fit 16 q) (i : Nat) : has (bits .andNot .i64 p q) i = (has p i && !has q i) := by
  obtain ⟨a, rfl, ha⟩ := fit_nat h; obtain ⟨b, rfl, hb⟩ := fit_nat k
  rw [dif_nat a b ha hb, has_nat _ _ (Nat.xor_lt_two_pow (n := 16) ha (Nat.lt_of_le_of_lt Nat.and_le_left ha)), has_nat a i ha, has_nat b i hb, Nat.testBit_xor, Nat.testBit_and]
  cases a.testBit i <;> cases b.testBit i <;> rfl
theorem has_ge {n : Nat} {p : Int} (h : Fit n p) (hn : n ≤ 16) (i : Nat) (hi : n ≤ i) : has p i = false := by
  obtain ⟨a, rfl, ha⟩ := fit_nat h
  rw [has_nat a i (pow16 hn ha)]
  exact Nat.testBit_lt_two_pow (Nat.lt_of_lt_of_le ha (Nat.pow_le_pow_right (by decide) hi))
theorem has_ext {n : Nat} {p q : Int} (hn : n ≤ 16) (h : Fit n p) (k : Fit n q) (e : ∀ i, i < n → has p i = has q i) : p = q := by
  have e' : ∀ i, has p i = has q i := fun i => by
    rcases Nat.lt_or_ge i n with hi | hi
    · exact e i hi
    · rw [has_ge h hn i hi, has_ge k hn i hi]
  obtain ⟨a, rfl, ha⟩ := fit_nat h; obtain ⟨b, rfl, hb⟩ := fit_nat k
  have : a = b := Nat.eq_of_testBit_eq fun i => by
    have := e' i; rwa [has_nat a i (pow16 hn ha), has_nat b i (pow16 hn hb)] at this
  rw [this]
theorem has_zero (i : Nat) : has 0 i = false := by
  have := has_nat 0 i (by decide); simpa using this
theorem sh_eq {k : Nat} (h : k < 16) : sh k = ((2 ^ k : Nat) : Int) := by
  unfold sh wrap64
  have h1 : (2 : Nat) ^ k < 65536 := Nat.pow_lt_pow_right (m := k) (n := 16) (by decide) h
  have e : ((2 : Int) ^ k) = ((2 ^ k : Nat) : Int) := by push_cast; rfl
  rw [e]
  generalize (2 : Nat) ^ k = A at h1
  omega
theorem fit_sh {n k : Nat} (hn : n ≤ 16) (h : k < n) : Fit n (sh k) := by
  rw [sh_eq (by omega)]; exact fit_of_nat (Nat.pow_lt_pow_right (by decide) h)
theorem has_sh {k : Nat} (h : k < 16) (i : Nat) : has (sh k) i = decide (k = i) := by
  rw [sh_eq h, has_nat _ i (Nat.pow_lt_pow_right (n := 16) (by decide) h), Nat.testBit_two_pow]

theorem fit_orf {m : Nat} (hm : m ≤ 16) (b : Nat → Bool) (g : Nat → Int) (n : Nat) (hg : ∀ k, k < n → Fit m (g k)) : Fit m (orf b g n) := by
  induction n with
  | zero => exact ⟨by simp [orf], by simp only [orf]; exact_mod_cast Nat.two_pow_pos m⟩
  | succ n ih =>
    have h1 := ih fun k hk => hg k (by omega)
    simp only [orf]; split
    · exact fit_or hm h1 (hg n (by omega))
    · exact h1
theorem has_orf {m : Nat} (hm : m ≤ 16) (b : Nat → Bool) (g : Nat → Int) (n : Nat) (hg : ∀ k, k < n → Fit m (g k)) (i : Nat) :
    has (orf b g n) i = (List.range n).any fun k => b k && has (g k) i := by
  induction n with
  | zero => simp [orf, has_zero]
  | succ n ih =>
    have h0 : ∀ k, k < n → Fit m (g k) := fun k hk => hg k (by omega)
    have h1 := fit_mono (fit_orf hm b g n h0) hm
    have h2 := fit_mono (hg n (by omega)) hm
    rw [List.range_succ, List.any_append, ← ih h0]
    simp only [orf]
    cases hb : b n
    · simp [hb]
    · simp [hb, has_or h1 h2]
theorem fit_andf {b : Nat → Bool} {g : Nat → Int} (n : Nat) (hg : ∀ k, k < n → Fit 4 (g k)) : Fit 4 (andf b g n) := by
  induction n with
  | zero => exact ⟨by simp [andf], by simp [andf]⟩
  | succ n ih =>
    have h1 := ih fun k hk => hg k (by omega)
    simp only [andf]; split
    · exact fit_and (by decide) h1 (hg n (by omega))
    · exact h1
theorem has_15 {i : Nat} (h : i < 4) : has 15 i = true := by
  have h' : i = 0 ∨ i = 1 ∨ i = 2 ∨ i = 3 := by omega
  have e := has_nat 15 i (by decide)
  rw [show (15 : Int) = ((15 : Nat) : Int) from rfl, e]
  rcases h' with rfl | rfl | rfl | rfl <;> decide
theorem has_andf (b : Nat → Bool) (g : Nat → Int) (n : Nat) (hg : ∀ k, k < n → Fit 4 (g k)) (i : Nat) (hi : i < 4) :
    has (andf b g n) i = (List.range n).all fun k => !b k || has (g k) i := by
  induction n with
  | zero => simp [andf, has_15 hi]
  | succ n ih =>
    have h0 : ∀ k, k < n → Fit 4 (g k) := fun k hk => hg k (by omega)
    have h1 := fit_mono (fit_andf (b := b) n h0) (n := 16) (by decide)
    have h2 := fit_mono (hg n (by omega)) (n := 16) (by decide)
    rw [List.range_succ, List.all_append, ← ih h0]
    simp only [andf]
    cases hb : b n
    · simp [hb]
    · simp [hb, has_and h1 h2]
theorem fit_mk {b : Nat → Bool} {n : Nat} (hn : n ≤ 16) : Fit n (mk b n) := fit_orf hn b sh n fun _ hk => fit_sh hn hk
theorem has_mk (b : Nat → Bool) {n : Nat} (hn : n ≤ 16) (i : Nat) : has (mk b n) i = (decide (i < n) && b i) := by
  unfold mk
  rw [has_orf hn b sh n (fun _ hk => fit_sh hn hk), Bool.eq_iff_iff]
  simp only [List.any_eq_true, List.mem_range, Bool.and_eq_true, decide_eq_true_eq]
  constructor
  · rintro ⟨k, hk, hb, h⟩
    rw [has_sh (by omega)] at h
    obtain rfl : k = i := by simpa using h
    exact ⟨hk, hb⟩
  · rintro ⟨hi, hb⟩
    exact ⟨i, hi, hb, by rw [has_sh (by omega)]; simp⟩

/-! ### conditions -/
abbrev C (p : Int) : Prop := 0 ≤ p ∧ p ≤ 15
theorem C.fit {p : Int} (h : C p) : Fit 4 p := ⟨h.1, by have := h.2; show p < 16; omega⟩
theorem Fit.c {p : Int} (h : Fit 4 p) : C p := ⟨h.1, by have : p < 16 := h.2; omega⟩
theorem C.fit16 {p : Int} (h : C p) : Fit 16 p := fit_mono h.fit (by decide)
theorem C.and {p q : Int} (h : C p) (k : C q) : C (bits .and .i64 p q) := (fit_and (by decide) h.fit k.fit).c
theorem C.or {p q : Int} (h : C p) (k : C q) : C (bits .or .i64 p q) := (fit_or (by decide) h.fit k.fit).c
theorem C.dif {p q : Int} (h : C p) (k : C q) : C (bits .andNot .i64 p q) := (fit_dif (by decide) h.fit k.fit).c
theorem C.mk {b : Nat → Bool} : C (mk b 4) := (fit_mk (by decide)).c
theorem C.ext {p q : Int} (h : C p) (k : C q) (e : ∀ i, i < 4 → has p i = has q i) : p = q := has_ext (by decide) h.fit k.fit e
theorem C.zero : C 0 := ⟨by decide, by decide⟩
theorem C.all : C 15 := ⟨by decide, by decide⟩
theorem dia_ok (r : Nat → Int) (p : Int) : C (dia r p) := C.mk
theorem box_ok (r : Nat → Int) (p : Int) : C (box r p) := C.mk
theorem img_ok {r : Nat → Int} (h : Cond r) (p : Int) : C (img r p) := (fit_orf (by decide) _ _ 4 fun k _ => C.fit (h k)).c
theorem notp_ok {p : Int} (h : C p) : C (notp p) := C.all.dif h
theorem has_notp {p : Int} (h : C p) {i : Nat} (hi : i < 4) : has (notp p) i = !has p i := by
  unfold notp; rw [has_dif C.all.fit16 h.fit16, has_15 hi]; rfl
theorem has_4 {p : Int} (h : C p) {i : Nat} (hi : 4 ≤ i) : has p i = false := has_ge h.fit (by decide) i hi
end Go.Proofs.YtaeibhpkcikaaaaGreatDoor

/- Tab -/
namespace Go.Proofs.YtaeibhpkcikaaaaGreatDoor
set_option linter.unusedVariables false
set_option linter.unusedSimpArgs false
open Go.RowKit

def monoAt (f : Nat → Int) (p q : Nat) : Bool := !((bits .andNot .i64 (p : Int) (q : Int) == 0) && (bits .andNot .i64 (f p) (f q) != 0))
/-- the table keeps what follows -/
def mono (f : Nat → Int) : Bool := (List.range 16).all fun p => (List.range 16).all fun q => monoAt f p q
theorem mono_at {f : Nat → Int} (h : mono f = true) {p q : Nat} (hp : p < 16) (hq : q < 16) : monoAt f p q = true := by
  simp only [mono, List.all_eq_true, List.mem_range] at h; exact h p hp q hq
theorem mono_of {f : Nat → Int} (h : ∀ p, p < 16 → ∀ q, q < 16 → monoAt f p q = true) : mono f = true := by
  simp only [mono, List.all_eq_true, List.mem_range]; exact h
theorem mono_congr {f g : Nat → Int} (h : ∀ k, k < 16 → f k = g k) : mono f = mono g := by
  rw [Bool.eq_iff_iff]
  constructor
  · intro a; exact mono_of fun p hp q hq => by have := mono_at a hp hq; simpa only [monoAt, h p hp, h q hq] using this
  · intro a; exact mono_of fun p hp q hq => by have := mono_at a hp hq; simpa only [monoAt, h p hp, h q hq] using this
/-- a text of a transformer -/
def okTr (s : ByteArray) : Bool := okTxt 16 s && mono (val s)
theorem okTr_txt {s : ByteArray} (h : okTr s = true) : okTxt 16 s = true := by simp only [okTr, Bool.and_eq_true] at h; exact h.1
theorem okTr_mono {s : ByteArray} (h : okTr s = true) : mono (val s) = true := by simp only [okTr, Bool.and_eq_true] at h; exact h.2
/-- what the program reads of a text of a transformer: nothing but noughts where it is none -/
def tabT (s : ByteArray) : Nat → Int := if okTr s then val s else fun _ => 0
theorem tabT_ok (s : ByteArray) : Cond (tabT s) := by
  unfold tabT; split
  · exact val_ok s
  · intro k; exact ⟨Int.le_refl 0, by show (0 : Int) ≤ 15; decide⟩
theorem tabT_val {s : ByteArray} (h : okTr s = true) : tabT s = val s := by simp [tabT, h]
theorem tabT_none {s : ByteArray} (h : okTr s = false) : tabT s = fun _ => 0 := by simp [tabT, h]

def thenT (t u : Nat → Int) : Nat → Int := fun k => t (u k).toNat
def meetT (t u : Nat → Int) : Nat → Int := fun k => bits .and .i64 (t k) (u k)
def joinT (t u : Nat → Int) : Nat → Int := fun k => bits .or .i64 (t k) (u k)
def dualT (t : Nat → Int) : Nat → Int := fun k => notp (t (notp (k : Int)).toNat)
def assertT (p : Int) : Nat → Int := fun k => bits .and .i64 p (k : Int)
def angelT (r : Nat → Int) : Nat → Int := fun k => dia r (k : Int)
def demonT (r : Nat → Int) : Nat → Int := fun k => box r (k : Int)
def refT (t u : Nat → Int) : Bool := (List.range 16).all fun k => bits .andNot .i64 (t k) (u k) == 0
theorem refT_at {t u : Nat → Int} (h : refT t u = true) {k : Nat} (hk : k < 16) : bits .andNot .i64 (t k) (u k) = 0 := by
  simp only [refT, List.all_eq_true, List.mem_range, beq_iff_eq] at h; exact h k hk
theorem refT_of {t u : Nat → Int} (h : ∀ k, k < 16 → bits .andNot .i64 (t k) (u k) = 0) : refT t u = true := by
  simp only [refT, List.all_eq_true, List.mem_range, beq_iff_eq]; exact h
theorem refT_congr {t t' u u' : Nat → Int} (h : ∀ k, k < 16 → t k = t' k) (h' : ∀ k, k < 16 → u k = u' k) : refT t u = refT t' u' := by
  rw [Bool.eq_iff_iff]
  exact ⟨fun a => refT_of fun k hk => by rw [← h k hk, ← h' k hk]; exact refT_at a hk, fun a => refT_of fun k hk => by rw [h k hk, h' k hk]; exact refT_at a hk⟩

theorem meetT_ok {t u : Nat → Int} (ht : Cond t) (hu : Cond u) : Cond (meetT t u) := fun k => C.and (ht k) (hu k)
theorem joinT_ok {t u : Nat → Int} (ht : Cond t) (hu : Cond u) : Cond (joinT t u) := fun k => C.or (ht k) (hu k)
theorem thenT_ok {t : Nat → Int} (ht : Cond t) (u : Nat → Int) : Cond (thenT t u) := fun _ => ht _
theorem dualT_ok {t : Nat → Int} (ht : Cond t) : Cond (dualT t) := fun _ => notp_ok (ht _)
theorem angelT_ok (r : Nat → Int) : Cond (angelT r) := fun _ => dia_ok _ _
theorem demonT_ok (r : Nat → Int) : Cond (demonT r) := fun _ => box_ok _ _

/-- p without q is nothing: q holds all of p -/
theorem dif_zero {p q : Int} (hp : C p) (hq : C q) : bits .andNot .i64 p q = 0 ↔ ∀ i, i < 4 → has p i = true → has q i = true := by
  constructor
  · intro h i hi hpi
    have := congrArg (fun x => has x i) h
    simp only [has_dif hp.fit16 hq.fit16, has_zero, hpi, Bool.true_and] at this
    simpa using this
  · intro h
    refine C.ext (C.dif hp hq) C.zero fun i hi => ?_
    rw [has_dif hp.fit16 hq.fit16, has_zero]
    cases hpi : has p i
    · rfl
    · simp [h i hi hpi]
theorem or_eq_iff {p q : Int} (hp : C p) (hq : C q) : bits .or .i64 p q = q ↔ bits .andNot .i64 p q = 0 := by
  rw [dif_zero hp hq]
  constructor
  · intro h i hi hpi
    have := congrArg (fun x => has x i) h
    simp only [has_or hp.fit16 hq.fit16, hpi, Bool.true_or] at this
    exact this.symm
  · intro h
    refine C.ext (C.or hp hq) hq fun i hi => ?_
    rw [has_or hp.fit16 hq.fit16]
    cases hpi : has p i
    · simp
    · simp [h i hi hpi]

theorem dg_hx_all : ∀ n : Fin 256, 0 ≤ hx (UInt8.ofNat n.val) → dg (hx (UInt8.ofNat n.val)) = UInt8.ofNat n.val := by decide +kernel
theorem dg_hx {c : UInt8} (h : 0 ≤ hx c) : dg (hx c) = c := by
  have e : UInt8.ofNat c.toNat = c := by simp
  have := dg_hx_all ⟨c.toNat, c.toNat_lt⟩
  simp only [e] at this
  exact this h
/-- two texts of digits are the same if their digits are -/
theorem txt_eq {n : Nat} {s t : ByteArray} (hs : okTxt n s = true) (ht : okTxt n t = true) (h : ∀ k, k < n → val s k = val t k) : s = t := by
  have e : ∀ k, k < n → bt s k = bt t k := fun k hk => by
    have h1 := h k hk
    rw [okTxt_val hs k hk, okTxt_val ht k hk] at h1
    rw [← dg_hx (okTxt_hx hs k hk), ← dg_hx (okTxt_hx ht k hk), h1]
  have l1 : s.data.toList.length = n := by have := okTxt_size hs; rw [← this]; rfl
  have l2 : t.data.toList.length = n := by have := okTxt_size ht; rw [← this]; rfl
  apply ByteArray.ext
  apply Array.ext'
  apply List.ext_getElem (by omega)
  intro k hk1 hk2
  have := e k (by omega)
  simp only [bt, List.getD_eq_getElem?_getD, List.getElem?_eq_getElem hk1, List.getElem?_eq_getElem hk2, Option.getD_some] at this
  exact this
theorem str_beq (a b : ByteArray) : (a.toList == b.toList) = decide (a = b) := by
  rw [Bool.eq_iff_iff, decide_eq_true_eq, beq_iff_eq, ByteArray.toList_eq, ByteArray.toList_eq]
  exact ⟨fun h => ByteArray.ext (Array.ext' h), fun h => by rw [h]⟩
theorem refT_join {t u : ByteArray} (hu : okTxt 16 u = true) : decide (txt 16 (joinT (val t) (val u)) = u) = refT (val t) (val u) := by
  rw [Bool.eq_iff_iff, decide_eq_true_eq]
  constructor
  · intro h
    refine refT_of fun k hk => ?_
    rw [← or_eq_iff (val_ok t k) (val_ok u k)]
    have := val_txt 16 _ (joinT_ok (val_ok t) (val_ok u)) k hk
    rw [h] at this
    exact this.symm
  · intro h
    refine txt_eq (okTxt_txt 16 _ (joinT_ok (val_ok t) (val_ok u))) hu fun k hk => ?_
    rw [val_txt 16 _ (joinT_ok (val_ok t) (val_ok u)) k hk]
    exact (or_eq_iff (val_ok t k) (val_ok u k)).2 (refT_at h hk)
end Go.Proofs.YtaeibhpkcikaaaaGreatDoor

/- Tab2 -/
namespace Go.Proofs.YtaeibhpkcikaaaaGreatDoor
set_option linter.unusedVariables false
set_option linter.unusedSimpArgs false
open Go.RowKit

/-- the least that, ahead of t, refines u -/
def leastT (t u : Nat → Int) : Nat → Int := fun p => orf (fun q => bits .andNot .i64 (t q) (p : Int) == 0) u 16
/-- the greatest that, ahead of t, u refines -/
def mostT (t u : Nat → Int) : Nat → Int := fun p => andf (fun q => bits .andNot .i64 (p : Int) (t q) == 0) u 16
theorem leastT_ok {t u : Nat → Int} (hu : Cond u) : Cond (leastT t u) := fun _ => (fit_orf (by decide) _ _ 16 fun k _ => C.fit (hu k)).c
theorem mostT_ok {t u : Nat → Int} (hu : Cond u) : Cond (mostT t u) := fun _ => (fit_andf 16 fun k _ => C.fit (hu k)).c

def Eq16 (f g : Nat → Int) : Prop := ∀ k, k < 16 → f k = g k
theorem Eq16.refl (f : Nat → Int) : Eq16 f f := fun _ _ => rfl
theorem Eq16.symm {f g : Nat → Int} (h : Eq16 f g) : Eq16 g f := fun k hk => (h k hk).symm
theorem Eq16.trans {f g h : Nat → Int} (a : Eq16 f g) (b : Eq16 g h) : Eq16 f h := fun k hk => (a k hk).trans (b k hk)
theorem eq16_txt {f : Nat → Int} (hf : Cond f) : Eq16 (val (txt 16 f)) f := fun k hk => val_txt 16 f hf k hk
theorem Eq16.txt {f g : Nat → Int} (h : Eq16 f g) : txt 16 f = txt 16 g := txt_ext h
theorem lt16 {p : Int} (h : C p) : p.toNat < 16 := by have := h.1; have := h.2; omega
theorem Eq16.then {t t' u u' : Nat → Int} (h : Eq16 t t') (k : Eq16 u u') (hu : Cond u') : Eq16 (thenT t u) (thenT t' u') := fun p hp => by
  unfold thenT; rw [k p hp, h _ (lt16 (hu p))]
theorem Eq16.dual {t t' : Nat → Int} (h : Eq16 t t') : Eq16 (dualT t) (dualT t') := fun p hp => by
  unfold dualT; rw [h _ (lt16 (notp_ok ⟨by omega, by omega⟩))]
theorem Eq16.join {t t' u u' : Nat → Int} (h : Eq16 t t') (k : Eq16 u u') : Eq16 (joinT t u) (joinT t' u') := fun p hp => by
  unfold joinT; rw [h p hp, k p hp]
theorem Eq16.meet {t t' u u' : Nat → Int} (h : Eq16 t t') (k : Eq16 u u') : Eq16 (meetT t u) (meetT t' u') := fun p hp => by
  unfold meetT; rw [h p hp, k p hp]
theorem orf_congr {b b' : Nat → Bool} {g g' : Nat → Int} {n : Nat} (hb : ∀ k, k < n → b k = b' k) (hg : ∀ k, k < n → g k = g' k) : orf b g n = orf b' g' n := by
  induction n with
  | zero => rfl
  | succ n ih =>
    have := ih (fun k hk => hb k (by omega)) (fun k hk => hg k (by omega))
    simp only [orf, this, hb n (by omega), hg n (by omega)]
theorem andf_congr {b b' : Nat → Bool} {g g' : Nat → Int} {n : Nat} (hb : ∀ k, k < n → b k = b' k) (hg : ∀ k, k < n → g k = g' k) : andf b g n = andf b' g' n := by
  induction n with
  | zero => rfl
  | succ n ih =>
    have := ih (fun k hk => hb k (by omega)) (fun k hk => hg k (by omega))
    simp only [andf, this, hb n (by omega), hg n (by omega)]
theorem mk_congr {b b' : Nat → Bool} {n : Nat} (hb : ∀ k, k < n → b k = b' k) : mk b n = mk b' n := orf_congr hb fun _ _ => rfl
theorem Eq16.least {t t' u u' : Nat → Int} (h : Eq16 t t') (k : Eq16 u u') : Eq16 (leastT t u) (leastT t' u') := fun p _ => by
  unfold leastT; exact orf_congr (fun q hq => by rw [h q hq]) (fun q hq => k q hq)
theorem Eq16.most {t t' u u' : Nat → Int} (h : Eq16 t t') (k : Eq16 u u') : Eq16 (mostT t u) (mostT t' u') := fun p _ => by
  unfold mostT; exact andf_congr (fun q hq => by rw [h q hq]) (fun q hq => k q hq)
theorem Eq16.ref {t t' u u' : Nat → Int} (h : Eq16 t t') (k : Eq16 u u') : refT t u = refT t' u' := refT_congr h k
theorem eq4_txt {f : Nat → Int} (hf : Cond f) : ∀ k, k < 4 → val (txt 4 f) k = f k := fun k hk => val_txt 4 f hf k hk
theorem diaP_congr {r q : Nat → Int} (h : ∀ k, k < 4 → r k = q k) (p : Int) : dia r p = dia q p := mk_congr fun k hk => by rw [h k hk]
theorem boxP_congr {r q : Nat → Int} (h : ∀ k, k < 4 → r k = q k) (p : Int) : box r p = box q p := mk_congr fun k hk => by rw [h k hk]
theorem eq16_angel {r q : Nat → Int} (h : ∀ k, k < 4 → r k = q k) : Eq16 (angelT r) (angelT q) := fun p _ => diaP_congr h p
theorem eq16_demon {r q : Nat → Int} (h : ∀ k, k < 4 → r k = q k) : Eq16 (demonT r) (demonT q) := fun p _ => boxP_congr h p
theorem notp_notp {p : Int} (h : C p) : notp (notp p) = p := C.ext (notp_ok (notp_ok h)) h fun i hi => by rw [has_notp (notp_ok h) hi, has_notp h hi, Bool.not_not]
theorem toNat_cast {p : Int} (h : C p) : ((p.toNat : Nat) : Int) = p := Int.toNat_of_nonneg h.1
/-- a box is no diamond of the others -/
theorem boxP_notp {r : Nat → Int} (hr : Cond r) {p : Int} (hp : C p) : notp (dia r (notp p)) = box r p := by
  refine C.ext (notp_ok (dia_ok _ _)) (box_ok _ _) fun i hi => ?_
  rw [has_notp (dia_ok _ _) hi]
  unfold dia box
  rw [has_mk _ (by decide), has_mk _ (by decide)]
  simp only [hi, decide_true, Bool.true_and]
  have e : bits .and .i64 (r i) (notp p) = bits .andNot .i64 (r i) p := by
    refine C.ext (C.and (hr i) (notp_ok hp)) (C.dif (hr i) hp) fun j hj => ?_
    rw [has_and (C.fit16 (hr i)) (C.fit16 (notp_ok hp)), has_dif (C.fit16 (hr i)) (C.fit16 hp), has_notp hp hj]
  rw [e]
  cases h : (bits .andNot .i64 (r i) p == 0) <;> simp_all [bne]
/-- the demon's transformer is the dual of the angel's -/
theorem dual_angel {r : Nat → Int} (hr : Cond r) : Eq16 (dualT (angelT r)) (demonT r) := fun p hp => by
  have hc : C (p : Int) := ⟨by omega, by omega⟩
  unfold dualT angelT demonT
  rw [toNat_cast (notp_ok hc), boxP_notp hr hc]
end Go.Proofs.YtaeibhpkcikaaaaGreatDoor

/- Dig -/
namespace Go.Proofs.YtaeibhpkcikaaaaGreatDoor
set_option linter.unusedVariables false
set_option linter.unusedSimpArgs false
open Go.RowKit Go.Shelf
set_option maxRecDepth 100000
set_option maxHeartbeats 1000000

theorem lib_stringslite_IndexByte (s : ByteArray) (c : Int) (w : World) :
    Calls Tryz.prog 78 #[.string s, .int .u8 c] w fun e w' => e = .returned (.int .i64 (firstIdx s c.toNat.toUInt8)) ∧ w = w' := by
  go_enter Tryz.func78, Tryz.ntmps78
  go_wp2
  rw [run_callFunc_indexByte Tryz.func107 (by kernel_rfl) (by kernel_rfl) (by kernel_rfl) (by kernel_rfl), run_indexByte_string]
  simp only [Result.andThen]
  rw [Oper.upon_value]
  go_wp2
  go_ret
  exact ⟨rfl, rfl⟩

theorem lib_IndexByte (s : ByteArray) (c : Int) (w : World) :
    Calls Tryz.prog 55 #[.string s, .int .u8 c] w fun e w' => e = .returned (.int .i64 (firstIdx s c.toNat.toUInt8)) ∧ w = w' := by
  go_enter Tryz.func55, Tryz.ntmps55
  go_wp2_with (go_at_call 78; refine (lib_stringslite_IndexByte _ _ _).mono ?_; rintro e w' ⟨rfl, rfl⟩)
  go_ret
  exact ⟨rfl, rfl⟩

theorem impl_digitOf (c : UInt8) (w : World) :
    Calls Tryz.prog 77 #[.int .u8 (c.toNat : Int)] w fun e w' => e = .returned (.int .i64 (hx c)) ∧ w = w' := by
  go_enter Tryz.func77, Tryz.ntmps77
  go_wp2_with fail
  refine (lib_IndexByte _ _ _).mono ?_
  rintro e w' ⟨rfl, rfl⟩
  go_wp2_with fail
  go_ret
  exact ⟨rfl, rfl⟩

theorem spec_l2Digit (n : Int) (w : World) (h0 : 0 ≤ n) (h1 : n ≤ 15) :
    Calls Tryz.prog 67 #[.int .i64 n] w fun e w' => e = .returned (.string (dgs n)) ∧ w = w' := by
  go_enter Tryz.func67, Tryz.ntmps67
  go_wp2_with fail
  go_ret
  exact ⟨ret_str (extract_dgs n h0 h1), rfl⟩

theorem firstIdx_at (s : ByteArray) (c : UInt8) (k : Nat) (hk : k < s.size) (he : bt s k = c) (hn : ∀ j, j < k → bt s j ≠ c) : firstIdx s c = k := by
  have hg : ∀ j, j < s.size → s[j]! = bt s j := fun j hj => by rw [getElem!_pos s j hj]; exact bt_get s j hj
  have : (List.range s.size).find? (fun i => s[i]! == c) = some k := by
    rw [List.find?_range_eq_some]
    refine ⟨by rw [hg k hk, he]; simp, by simpa using hk, fun j hj => ?_⟩
    rw [hg j (by omega)]; simpa using hn j hj
  unfold firstIdx; rw [this]
theorem firstIdx_none (s : ByteArray) (c : UInt8) (hn : ∀ j, j < s.size → bt s j ≠ c) : firstIdx s c = -1 := by
  have hg : ∀ j, j < s.size → s[j]! = bt s j := fun j hj => by rw [getElem!_pos s j hj]; exact bt_get s j hj
  have : (List.range s.size).find? (fun i => s[i]! == c) = none := by
    rw [List.find?_eq_none]
    intro j hj
    rw [hg j (by simpa using hj)]; simpa using hn j (by simpa using hj)
  unfold firstIdx; rw [this]

theorem spec_l14Find (s : ByteArray) (c : UInt8) (w : World) (hs : s.size ≤ 4294967296) :
    Calls Tryz.prog 50 #[.string s, .int .u8 (c.toNat : Int)] w fun e w' => e = .returned (.int .i64 (firstIdx s c)) ∧ w = w' := by
  go_enter Tryz.func50, Tryz.ntmps50
  go_wp2_with fail
  go_loop [5] (fun i => ∃ k : Nat, k ≤ s.size ∧ i = .int .i64 k ∧ Hid (∀ j, j < k → bt s j ≠ c)) (fun i => s.size - (intOf i).toNat)
  case atStart => exact ⟨0, by omega, rfl, fun j hj => by omega⟩
  case round =>
    obtain ⟨k, hk, rfl, H⟩ := hrel
    by_cases hlt : k < s.size
    · by_cases he : bt s k = c
      · have e1 : (((bt s k).toNat : Int) == (c.toNat : Int)) = true := by rw [he]; simp
        have H2 := Lib.hid he; clear he
        go_wp2_with fail
        go_ret
        exact ⟨ret_int (firstIdx_at s c k hlt H2.out H.out).symm, rfl⟩
      · have e1 : (((bt s k).toNat : Int) == (c.toNat : Int)) = false := by
          rw [beq_eq_false_iff_ne]; intro h; exact he (UInt8.toNat_inj.1 (by omega))
        have H2 := Lib.hid he; clear he
        go_wp2_with fail
        go_round
        case rel => exact ⟨k + 1, by omega, by go_num, fun j hj => by
          rcases Nat.lt_or_ge j k with h | h
          · exact H.out j h
          · obtain rfl : j = k := by omega
            exact H2.out⟩
        case measure => simp [intOf]; omega
    · have : k = s.size := by omega
      have H2 : Hid (∀ j, j < s.size → bt s j ≠ c) := by rw [← this]; exact H.out
      clear this
      go_wp2_with fail
      go_ret
      exact ⟨ret_int (firstIdx_none s c H2.out).symm, rfl⟩

theorem spec_l2Hex (c : UInt8) (w : World) :
    Calls Tryz.prog 72 #[.int .u8 (c.toNat : Int)] w fun e w' => e = .returned (.int .i64 (hx c)) ∧ w = w' := by
  go_enter Tryz.func72, Tryz.ntmps72
  go_wp2_with fail
  refine (spec_l14Find _ _ _ (by decide)).mono ?_
  rintro e w' ⟨rfl, rfl⟩
  go_wp2_with fail
  go_ret
  exact ⟨rfl, rfl⟩

/-- 'are the first k bytes of s digits?' -/
def digs (s : ByteArray) (k : Nat) : Bool := (List.range k).all fun j => decide (0 ≤ hx (bt s j))

theorem spec_l2Digits (s : ByteArray) (n : Int) (w : World) (hs : s.size ≤ 4611686018427387904) (hn : 0 ≤ n) :
    Calls Tryz.prog 118 #[.string s, .int .i64 n] w fun e w' => e = .returned (.bool (okTxt n.toNat s)) ∧ w = w' := by
  go_enter Tryz.func118, Tryz.ntmps118
  go_wp2_with fail
  go_loop [5] (fun i => ∃ k : Nat, k ≤ s.size ∧ i = .int .i64 k ∧ Hid (∀ j, j < k → 0 ≤ hx (bt s j))) (fun i => s.size - (intOf i).toNat)
  case atStart => exact ⟨0, by omega, rfl, fun j hj => by omega⟩
  case round =>
    obtain ⟨k, hk, rfl, H⟩ := hrel
    by_cases hlt : k < s.size
    · by_cases he : hx (bt s k) < 0
      · go_wp2_with fail
        refine (spec_l2Hex _ _).mono ?_
        rintro e w' ⟨rfl, rfl⟩
        go_wp2_with fail
        go_ret
        refine ⟨ret_bool (Eq.symm ?_), rfl⟩
        rw [Bool.eq_false_iff]
        intro h
        have h1 := okTxt_size h
        have := okTxt_hx h k (by omega)
        omega
      · have he' : 0 ≤ hx (bt s k) := by omega
        have H2 := Lib.hid he'
        clear he
        go_wp2_with fail
        refine (spec_l2Hex _ _).mono ?_
        rintro e w' ⟨rfl, rfl⟩
        go_wp2_with fail
        go_round
        case rel => exact ⟨k + 1, by omega, by go_num, fun j hj => by
          rcases Nat.lt_or_ge j k with h | h
          · exact H.out j h
          · obtain rfl : j = k := by omega
            exact H2.out⟩
        case measure => simp [intOf]; omega
    · have hkk : k = s.size := by omega
      have H2 : Hid (∀ j, j < s.size → 0 ≤ hx (bt s j)) := by rw [← hkk]; exact H.out
      clear hkk
      go_wp2_with fail
      go_ret
      refine ⟨ret_bool ?_, rfl⟩
      rw [Bool.eq_iff_iff]
      constructor
      · intro h
        have h' : s.size = n.toNat := by have : (s.size : Int) = n := by simpa using h
                                         omega
        simp only [okTxt, Bool.and_eq_true, decide_eq_true_eq, List.all_eq_true, List.mem_range]
        exact ⟨h', fun j hj => H2.out j (by omega)⟩
      · intro h; have := okTxt_size h; simp; omega
end Go.Proofs.YtaeibhpkcikaaaaGreatDoor

/- Fam -/
namespace Go.Proofs.YtaeibhpkcikaaaaGreatDoor
set_option linter.unusedVariables false
set_option linter.unusedSimpArgs false
open Go.RowKit

/-- the conditions for which state s meets what t tells -/
def famT (t : Nat → Int) (s : Nat) : Int := mk (fun p => has (t p) s) 16
theorem famT_fit (t : Nat → Int) (s : Nat) : Fit 16 (famT t s) := fit_mk (by decide)
/-- all conditions that follow from those of a family -/
def closeF (f : Int) : Int := mk (fun q => (List.range 16).any fun p => has f p && (bits .andNot .i64 (p : Int) (q : Int) == 0)) 16
theorem closeF_fit (f : Int) : Fit 16 (closeF f) := fit_mk (by decide)
/-- .. as the reference gathers them -/
def upIn (p : Nat) (acc : Int) : Nat → Int
  | 0 => acc
  | j + 1 => if bits .andNot .i64 (p : Int) (j : Int) == 0 then bits .or .i64 (upIn p acc j) (sh j) else upIn p acc j
def upS (f : Int) : Nat → Int
  | 0 => 0
  | k + 1 => if has f k then upIn k (upS f k) 16 else upS f k
theorem upIn_fit {p : Nat} {acc : Int} (h : Fit 16 acc) (j : Nat) (hj : j ≤ 16) : Fit 16 (upIn p acc j) := by
  induction j with
  | zero => exact h
  | succ j ih =>
    have h1 := ih (by omega)
    simp only [upIn]; split
    · exact fit_or (by decide) h1 (fit_sh (by decide) (by omega))
    · exact h1
theorem upIn_has {p : Nat} {acc : Int} (h : Fit 16 acc) (j : Nat) (hj : j ≤ 16) (i : Nat) : has (upIn p acc j) i = (has acc i || (decide (i < j) && (bits .andNot .i64 (p : Int) (i : Int) == 0))) := by
  induction j with
  | zero => simp [upIn]
  | succ j ih =>
    have h1 := ih (by omega)
    simp only [upIn]
    cases hb : (bits .andNot .i64 (p : Int) (j : Int) == 0)
    · simp only [Bool.false_eq_true, if_false, h1]
      by_cases e : i = j
      · subst e; simp [hb]
      · congr 2; simp; omega
    · simp only [if_true]
      rw [has_or (upIn_fit h j (by omega)) (fit_sh (by decide) (by omega)), h1, has_sh (by omega)]
      by_cases e : j = i
      · subst e; simp [hb]
      · have : (decide (j = i)) = false := by simp [e]
        rw [this, Bool.or_false]
        congr 2; simp; omega
theorem upS_fit (f : Int) (k : Nat) (hk : k ≤ 16) : Fit 16 (upS f k) := by
  induction k with
  | zero => exact ⟨by simp [upS], by simp [upS]⟩
  | succ k ih =>
    have h1 := ih (by omega)
    simp only [upS]; split
    · exact upIn_fit h1 16 (by omega)
    · exact h1
theorem upS_has (f : Int) (k : Nat) (hk : k ≤ 16) (i : Nat) (hi : i < 16) : has (upS f k) i = (List.range k).any fun p => has f p && (bits .andNot .i64 (p : Int) (i : Int) == 0) := by
  induction k with
  | zero => simp [upS, has_zero]
  | succ k ih =>
    have h1 := ih (by omega)
    rw [List.range_succ, List.any_append, ← h1]
    simp only [upS, List.any_cons, List.any_nil, Bool.or_false]
    cases hf : has f k
    · simp
    · simp only [if_true, Bool.true_and]
      rw [upIn_has (upS_fit f k (by omega)) 16 (by omega)]
      simp [hi]
theorem upS_close (f : Int) : upS f 16 = closeF f := by
  refine has_ext (n := 16) (by decide) (upS_fit f 16 (by omega)) (closeF_fit f) fun i hi => ?_
  unfold closeF
  rw [upS_has f 16 (by omega) i hi, has_mk _ (by decide)]
  simp [hi]
/-- the transformer of four families -/
def transOfT (fam : Nat → Int) : Nat → Int := fun p => mk (fun s => has (closeF (fam s)) p) 4
theorem transOfT_ok (fam : Nat → Int) : Cond (transOfT fam) := fun _ => C.mk
theorem transOfT_congr {f g : Nat → Int} (h : ∀ s, s < 4 → f s = g s) : Eq16 (transOfT f) (transOfT g) := fun p _ => mk_congr fun s hs => by rw [h s hs]
/-- the families that are missing in t -/
def missT (t u : Nat → Int) (s : Nat) : Int := bits .andNot .i64 (famT u s) (famT t s)
theorem missT_fit (t u : Nat → Int) (s : Nat) : Fit 16 (missT t u s) := fit_dif (by decide) (famT_fit u s) (famT_fit t s)
theorem famT_congr {t t' : Nat → Int} (h : Eq16 t t') (s : Nat) : famT t s = famT t' s := mk_congr fun p hp => by rw [h p hp]
/-- the least that, chosen beside t by the angel, refines u -/
def besideT (t u : Nat → Int) : Nat → Int := transOfT (missT t u)
theorem besideT_ok (t u : Nat → Int) : Cond (besideT t u) := transOfT_ok _
theorem Eq16.beside {t t' u u' : Nat → Int} (h : Eq16 t t') (k : Eq16 u u') : Eq16 (besideT t u) (besideT t' u') :=
  transOfT_congr fun s _ => by unfold missT; rw [famT_congr h, famT_congr k]
/-- the greatest that, chosen beside t by the demon, is refined by u -/
def besideD (t u : Nat → Int) : Nat → Int := dualT (besideT (dualT t) (dualT u))
theorem besideD_ok (t u : Nat → Int) : Cond (besideD t u) := dualT_ok (besideT_ok _ _)
theorem fit16_le {f : Int} (h : Fit 16 f) : 0 ≤ f ∧ f ≤ 65535 := ⟨h.1, by have : f < 65536 := h.2; omega⟩
end Go.Proofs.YtaeibhpkcikaaaaGreatDoor
