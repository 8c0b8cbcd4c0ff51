/- Contracts: the program's reading of contracts into trees. -/
import Derived.Test.YtaeibhpkcikaaaaGreatDoorSp5c
import Derived.Test.YtaeibhpkcikaaaaGreatDoorGC
import Derived.Deep.MidRow
import Derived.Maps.AppendAt
import Derived.Lib.Strings
import Derived.Lib.Walk
import Derived.Lib.BufferWrite
import Derived.Lib.UnsafeStr
import Derived.Lib.Hide
import Derived.Laws.MakeOwn
/- Im5 -/
namespace Go.Proofs.YtaeibhpkcikaaaaGreatDoor
set_option linter.unusedVariables false
set_option linter.unusedSimpArgs false
open Go.RowKit Go.Shelf
set_option maxRecDepth 100000
set_option maxHeartbeats 1000000

/-- how many parts (-1: no statement) and digits a letter has, as the program tells it -/
def shpI (b : UInt8) : Int × Int := match shp b with
  | some (k, n) => (k, n)
  | none => (-1, 0)
theorem shpI_some {b : UInt8} {k n : Nat} (h : shp b = some (k, n)) : shpI b = ((k : Int), (n : Int)) := by unfold shpI; rw [h]
theorem shpI_none {b : UInt8} (h : shp b = none) : shpI b = (-1, 0) := by unfold shpI; rw [h]
theorem shp_all {b : UInt8} (h : shp b ≠ none) : b = 115 ∨ b = 97 ∨ b = 109 ∨ b = 33 ∨ b = 63 ∨ b = 65 ∨ b = 68 ∨ b = 59 ∨ b = 38 ∨ b = 124 ∨ b = 105 ∨ b = 119 ∨ b = 42 ∨ b = 43 := by
  refine Classical.byContradiction fun hn => h ?_
  simp only [not_or] at hn
  obtain ⟨h1, h2, h3, h4, h5, h6, h7, h8, h9, h10, h11, h12, h13, h14⟩ := hn
  simp [shp, h1, h2, h3, h4, h5, h6, h7, h8, h9, h10, h11, h12, h13, h14]
theorem impl_shapeOf (b : UInt8) (w : World) : Calls Tryz.prog 76 #[.int .u8 (b.toNat : Int)] w fun e w' => e = .returned (.tuple #[.int .i64 (shpI b).1, .int .i64 (shpI b).2]) ∧ w = w' := by
  by_cases h : shp b = none
  · obtain ⟨h1, h2, h3, h4, h5, h6, h7, h8, h9, h10, h11, h12, h13, h14⟩ := shp_none h
    have HI := Lib.hid (shpI_none h)
    have e1 := u8_ne (n := 115) h1 rfl
    have e2 := u8_ne (n := 97) h2 rfl
    have e3 := u8_ne (n := 109) h3 rfl
    have e4 := u8_ne (n := 33) h4 rfl
    have e5 := u8_ne (n := 63) h5 rfl
    have e6 := u8_ne (n := 65) h6 rfl
    have e7 := u8_ne (n := 68) h7 rfl
    have e8 := u8_ne (n := 59) h8 rfl
    have e9 := u8_ne (n := 38) h9 rfl
    have e10 := u8_ne (n := 124) h10 rfl
    have e11 := u8_ne (n := 105) h11 rfl
    have e12 := u8_ne (n := 119) h12 rfl
    have e13 := u8_ne (n := 42) h13 rfl
    have e14 := u8_ne (n := 43) h14 rfl
    clear h h1 h2 h3 h4 h5 h6 h7 h8 h9 h10 h11 h12 h13 h14
    go_enter Tryz.func76, Tryz.ntmps76
    go_wp2_with fail
    go_ret2
    rw [HI.out]
    exact ⟨rfl, rfl⟩
  · rcases shp_all h with rfl | rfl | rfl | rfl | rfl | rfl | rfl | rfl | rfl | rfl | rfl | rfl | rfl | rfl
    all_goals
      clear h
      go_enter Tryz.func76, Tryz.ntmps76
      go_wp2_with fail
      go_ret2
      exact ⟨rfl, rfl⟩

/-- a statement in memory -/
structure Node (w : World) (b : Nat) (o : UInt8) (p : Int) (r : Nat → Int) (pv : Value) (tx : ByteArray) : Prop where
  eq : w.heap[b]? = some (.cells #[.int .u8 (o.toNat : Int), .int .i64 p, .int .i64 (r 0), .int .i64 (r 1), .int .i64 (r 2), .int .i64 (r 3), pv, .string tx] 84 (0, 0))
section
variable {w : World} {b : Nat} {o : UInt8} {p : Int} {r : Nat → Int} {pv : Value} {tx : ByteArray}
theorem Node.op (h : Node w b o p r pv tx) : w.cell? ⟨b, 0, none⟩ = some (.int .u8 (o.toNat : Int)) := by rw [cell_of_row w b 0 _ _ _ h.eq]; rfl
theorem Node.cp (h : Node w b o p r pv tx) : w.cell? ⟨b, 1, none⟩ = some (.int .i64 p) := by rw [cell_of_row w b 1 _ _ _ h.eq]; rfl
theorem Node.cr (h : Node w b o p r pv tx) (k : Nat) (hk : k < 4) : w.cell? ⟨b, 2 + k, none⟩ = some (.int .i64 (r k)) := by
  rw [cell_of_row w b (2 + k) _ _ _ h.eq]
  obtain rfl | rfl | rfl | rfl : k = 0 ∨ k = 1 ∨ k = 2 ∨ k = 3 := by omega
  all_goals rfl
theorem Node.parts (h : Node w b o p r pv tx) : w.cell? ⟨b, 6, none⟩ = some pv := by rw [cell_of_row w b 6 _ _ _ h.eq]; rfl
theorem Node.text (h : Node w b o p r pv tx) : w.cell? ⟨b, 7, none⟩ = some (.string tx) := by rw [cell_of_row w b 7 _ _ _ h.eq]; rfl
theorem Node.free (h : Node w b o p r pv tx) (k : Nat) : w.frozen? ⟨b, k, none⟩ = false := frozen_of_row w b k _ _ h.eq
theorem Node.lt (h : Node w b o p r pv tx) : b < w.heap.size := (Array.getElem?_eq_some_iff.1 h.eq).1
theorem Node.grown {w' : World} (h : Node w b o p r pv tx) (hb : Below w.heap.size w w') : Node w' b o p r pv tx := ⟨(hb.block b h.lt).trans h.eq⟩
theorem Node.kept {w' : World} (h : Node w b o p r pv tx) (hb : w'.heap[b]? = w.heap[b]?) : Node w' b o p r pv tx := ⟨hb.trans h.eq⟩
theorem Node.setP (h : Node w b o p r pv tx) (v : Int) : Node (w.setCell ⟨b, 1, none⟩ (.int .i64 v)) b o v r pv tx := ⟨by rw [heap_setCell_same w b 1 _ _ _ h.eq]; rfl⟩
theorem Node.setR (h : Node w b o p r pv tx) (k : Nat) (hk : k < 4) (v : Int) : Node (w.setCell ⟨b, 2 + k, none⟩ (.int .i64 v)) b o p (upd r k v) pv tx := by
  refine ⟨?_⟩
  rw [heap_setCell_same w b (2 + k) _ _ _ h.eq]
  obtain rfl | rfl | rfl | rfl : k = 0 ∨ k = 1 ∨ k = 2 ∨ k = 3 := by omega
  all_goals rfl
theorem Node.setParts (h : Node w b o p r pv tx) (v : Value) : Node (w.setCell ⟨b, 6, none⟩ v) b o p r v tx := ⟨by rw [heap_setCell_same w b 6 _ _ _ h.eq]; rfl⟩
theorem Node.setText (h : Node w b o p r pv tx) (v : ByteArray) : Node (w.setCell ⟨b, 7, none⟩ (.string v)) b o p r pv v := ⟨by rw [heap_setCell_same w b 7 _ _ _ h.eq]; rfl⟩
theorem Node.ext {p' : Int} {r' : Nat → Int} (h : Node w b o p r pv tx) (hp : p = p') (hr : ∀ k, k < 4 → r k = r' k) : Node w b o p' r' pv tx :=
  ⟨by rw [h.eq, hp, hr 0 (by decide), hr 1 (by decide), hr 2 (by decide), hr 3 (by decide)]⟩
end
def ptr (b : Nat) : Value := .pointer (some ⟨b, 0, none⟩)
def lastD (d : List Int) : Int := d.getLastD 0
def relD (d : List Int) (k : Nat) : Int := if d.length = 4 then dsF d k else 0
/-- a contract in memory, in blocks of S -/
def Tree (w : World) (S : Nat → Prop) : Ct → Nat → Prop
  | .n0 o d, b => S b ∧ Node w b o (lastD d) (relD d) (.slice none 0 0) (Ct.n0 o d).text
  | .n1 o d x, b => ∃ g cap c, (S b ∧ S g) ∧ Node w b o (lastD d) (relD d) (.slice (some ⟨g, 0, none⟩) 1 cap) (Ct.n1 o d x).text ∧ w.cell? ⟨g, 0, none⟩ = some (ptr c) ∧ Tree w S x c
  | .n2 o d x y, b => ∃ g cap c e, (S b ∧ S g) ∧ Node w b o (lastD d) (relD d) (.slice (some ⟨g, 0, none⟩) 2 cap) (Ct.n2 o d x y).text ∧ w.cell? ⟨g, 0, none⟩ = some (ptr c) ∧ w.cell? ⟨g, 1, none⟩ = some (ptr e) ∧ Tree w S x c ∧ Tree w S y e
theorem Tree.grown {w w' : World} {S : Nat → Prop} (hb : Below w.heap.size w w') : ∀ (t : Ct) (b : Nat), Tree w S t b → Tree w' S t b
  | .n0 _ _, _, ⟨h0, h⟩ => ⟨h0, Node.grown h hb⟩
  | .n1 _ _ x, _, ⟨g, cap, c, h0, h1, h2, h3⟩ => ⟨g, cap, c, h0, h1.grown hb, cell_grown h2 hb, Tree.grown hb x c h3⟩
  | .n2 _ _ x y, _, ⟨g, cap, c, e, h0, h1, h2, h3, h4, h5⟩ => ⟨g, cap, c, e, h0, h1.grown hb, cell_grown h2 hb, cell_grown h3 hb, Tree.grown hb x c h4, Tree.grown hb y e h5⟩
theorem cell_kept {w w' : World} {g k : Nat} {v : Value} (h : w.cell? ⟨g, k, none⟩ = some v) (e : w'.heap[g]? = w.heap[g]?) : w'.cell? ⟨g, k, none⟩ = some v := (World.cell?_of_block e).trans h
/-- what turns no block of S leaves it -/
theorem Tree.kept {w w' : World} {S : Nat → Prop} (hb : ∀ k, S k → k < w.heap.size → w'.heap[k]? = w.heap[k]?) : ∀ (t : Ct) (b : Nat), Tree w S t b → Tree w' S t b
  | .n0 _ _, _, ⟨h0, h⟩ => ⟨h0, Node.kept h (hb _ h0 h.lt)⟩
  | .n1 _ _ x, _, ⟨g, cap, c, h0, h1, h2, h3⟩ => ⟨g, cap, c, h0, h1.kept (hb _ h0.1 h1.lt), cell_kept h2 (hb _ h0.2 (block_lt_of_cell h2)), Tree.kept hb x c h3⟩
  | .n2 _ _ x y, _, ⟨g, cap, c, e, h0, h1, h2, h3, h4, h5⟩ => ⟨g, cap, c, e, h0, h1.kept (hb _ h0.1 h1.lt), cell_kept h2 (hb _ h0.2 (block_lt_of_cell h2)), cell_kept h3 (hb _ h0.2 (block_lt_of_cell h2)), Tree.kept hb x c h4, Tree.kept hb y e h5⟩
theorem Tree.weaken {w : World} {S S' : Nat → Prop} (hS : ∀ k, S k → k < w.heap.size → S' k) : ∀ (t : Ct) (b : Nat), Tree w S t b → Tree w S' t b
  | .n0 _ _, _, ⟨h0, h⟩ => ⟨hS _ h0 h.lt, h⟩
  | .n1 _ _ x, _, ⟨g, cap, c, h0, h1, h2, h3⟩ => ⟨g, cap, c, ⟨hS _ h0.1 h1.lt, hS _ h0.2 (block_lt_of_cell h2)⟩, h1, h2, Tree.weaken hS x c h3⟩
  | .n2 _ _ x y, _, ⟨g, cap, c, e, h0, h1, h2, h3, h4, h5⟩ => ⟨g, cap, c, e, ⟨hS _ h0.1 h1.lt, hS _ h0.2 (block_lt_of_cell h2)⟩, h1, h2, h3, Tree.weaken hS x c h4, Tree.weaken hS y e h5⟩
/-- a list of contracts in memory -/
def Trees (w : World) (S : Nat → Prop) : List Ct → List Nat → Prop
  | [], [] => True
  | t :: ts, b :: bs => Tree w S t b ∧ Trees w S ts bs
  | _, _ => False
theorem Trees.map {w w' : World} {S S' : Nat → Prop} (f : ∀ t b, Tree w S t b → Tree w' S' t b) : ∀ (ts : List Ct) (bs : List Nat), Trees w S ts bs → Trees w' S' ts bs
  | [], [], _ => trivial
  | t :: ts, b :: bs, ⟨h, k⟩ => ⟨f t b h, Trees.map f ts bs k⟩
  | [], _ :: _, h => h
  | _ :: _, [], h => h
theorem Trees.snoc {w : World} {S : Nat → Prop} : ∀ (ts : List Ct) (bs : List Nat) (t : Ct) (b : Nat), Trees w S ts bs → Tree w S t b → Trees w S (ts ++ [t]) (bs ++ [b])
  | [], [], _, _, _, h => ⟨h, trivial⟩
  | _ :: ts, _ :: bs, t, b, ⟨h, k⟩, h2 => ⟨h, Trees.snoc ts bs t b k h2⟩
  | [], _ :: _, _, _, h, _ => h.elim
  | _ :: _, [], _, _, h, _ => h.elim
theorem Trees.length {w : World} {S : Nat → Prop} : ∀ (ts : List Ct) (bs : List Nat), Trees w S ts bs → ts.length = bs.length
  | [], [], _ => rfl
  | _ :: ts, _ :: bs, ⟨_, k⟩ => by simp [Trees.length ts bs k]
  | [], _ :: _, h => h.elim
  | _ :: _, [], h => h.elim
/-- contracts that lie one behind the other -/
def LieFrom (c : ByteArray) (a : Nat) : List Ct → Prop
  | [] => True
  | t :: ts => (t.WF ∧ LiesAt c a t) ∧ LieFrom c (a + t.len) ts
theorem LieFrom.snoc {c : ByteArray} : ∀ (ts : List Ct) (a : Nat) (t : Ct), LieFrom c a ts → t.WF → LiesAt c (a + sumLen ts) t → LieFrom c a (ts ++ [t])
  | [], a, t, _, h, k => ⟨⟨h, by simpa [sumLen] using k⟩, trivial⟩
  | x :: ts, a, t, ⟨h1, h2⟩, h, k => ⟨h1, LieFrom.snoc ts (a + x.len) t h2 h (by rw [Nat.add_assoc]; simpa [sumLen] using k)⟩
theorem ptrs_cell {w : World} {base : Nat} {e : TypeId} {v : Value} {bs : List Nat} (h : w.ownsRow base e 1 v bs.length (bs.map ptr)) (hne : bs ≠ []) :
    ∃ g cap, v = .slice (some ⟨g, 0, none⟩) bs.length cap ∧ base ≤ g ∧ ∀ j b, bs[j]? = some b → w.cell? ⟨g, j, none⟩ = some (ptr b) := by
  rcases h.2 with ⟨_, h0⟩ | ⟨g, cap, cur, rfl, hg, _⟩
  · exact absurd (List.eq_nil_of_length_eq_zero h0) hne
  · refine ⟨g, cap, rfl, hg, fun j b hj => ?_⟩
    have h1 := World.ownsRow.cells h (g := g) rfl j (ptr b) (by simp [hj])
    have h2 : (⟨g, 0, none⟩ : Addr).add j = ⟨g, j, none⟩ := by unfold Addr.add; split <;> simp_all
    rwa [h2] at h1
theorem ptrs_nil {w : World} {base : Nat} {e : TypeId} {v : Value} (h : w.ownsRow base e 1 v 0 []) (hn : v.ownBlock = none) : v = .slice none 0 0 := by
  rcases h.2 with ⟨h0, _⟩ | ⟨g, cap, cur, rfl, _⟩
  · exact h0
  · simp [Value.ownBlock] at hn
theorem grown_of {w w' : World} (hb : Below w.heap.size w w') : w.grownBy w' none := ⟨hb.os, hb.tape, hb.output, hb.size, fun k hk _ => hb.block k hk⟩
theorem own_below {w w' : World} {base size n : Nat} {e : TypeId} {v : Value} {xs : List Value} (h : w.ownsRow base e size v n xs) (hb : Below w.heap.size w w') : w'.ownsRow base e size v n xs :=
  h.kept (grown_of hb) (by cases v.ownBlock <;> simp)
/-- a contract is made of what was read -/
theorem tree_made {w : World} {S : Nat → Prop} {c : ByteArray} {a b n base : Nat} {pv : Value} {us : List Ct} {bs : List Nat} {p : Int} {r : Nat → Int} {tx : ByteArray} (hs : shp (bt c a) = some (us.length, n)) (hd : digOk c (a + 1) n = true)
    (hl : LieFrom c (a + 1 + n) us) (hN : Node w b (bt c a) p r pv tx) (hp : p = lastD (digsAt c (a + 1) n)) (hr : ∀ k, k < 4 → r k = relD (digsAt c (a + 1) n) k)
    (ho : w.ownsRow base 44 1 pv us.length (bs.map ptr)) (hpv : us = [] → pv.ownBlock = none) (ht : Trees w S us bs) (hSb : S b) (hSg : ∀ g, pv.ownBlock = some g → S g) :
    ∃ t : Ct, t.WF ∧ LiesAt c a t ∧ t.len = 1 + n + sumLen us ∧ (tx = t.text → Tree w S t b) := by
  have h1 := digOk_size hd
  have h2 := digOk_hx hd
  have h3 := digsAt_c h2
  have hlen := ht.length
  have hN' := hN.ext hp hr
  match us, bs, hs, hl, ho, hpv, ht, hlen with
  | [], [], hs, hl, ho, hpv, ht, _ =>
    refine ⟨.n0 (bt c a) (digsAt c (a + 1) n), ⟨by rw [digsAt_len]; exact hs, h3⟩, lies_n0 h1 h2, by rw [Ct.len0, digsAt_len]; simp [sumLen], fun e => ?_⟩
    subst e
    rw [ptrs_nil ho (hpv rfl)] at hN'
    exact ⟨hSb, hN'⟩
  | [x], [bx], hs, hl, ho, hpv, ht, _ =>
    refine ⟨.n1 (bt c a) (digsAt c (a + 1) n) x, ⟨⟨by rw [digsAt_len]; exact hs, h3⟩, hl.1.1⟩, lies_n1 h1 h2 hl.1.2, by rw [Ct.len1, digsAt_len]; simp [sumLen], fun e => ?_⟩
    subst e
    obtain ⟨g, cap, rfl, _, hc⟩ := ptrs_cell (bs := [bx]) ho (by simp)
    exact ⟨g, cap, bx, ⟨hSb, hSg g rfl⟩, hN', hc 0 bx rfl, ht.1⟩
  | [x, y], [bx, by'], hs, hl, ho, hpv, ht, _ =>
    refine ⟨.n2 (bt c a) (digsAt c (a + 1) n) x y, ⟨⟨by rw [digsAt_len]; exact hs, h3⟩, hl.1.1, hl.2.1.1⟩, lies_n2 h1 h2 hl.1.2 hl.2.1.2, by rw [Ct.len2, digsAt_len]; simp [sumLen], fun e => ?_⟩
    subst e
    obtain ⟨g, cap, rfl, _, hc⟩ := ptrs_cell (bs := [bx, by']) ho (by simp)
    exact ⟨g, cap, bx, by', ⟨hSb, hSg g rfl⟩, hN', hc 0 bx rfl, hc 1 by' rfl, ht.1, ht.2.1⟩
  | x :: y :: z :: us, bs, hs, _, _, _, _, _ => have := shp_le hs; simp at this
/-- where a part is missing nothing lies -/
theorem nothing_part {c : ByteArray} {a k n : Nat} {us : List Ct} (hs : shp (bt c a) = some (k, n)) (hl : LieFrom c (a + 1 + n) us) (hk : us.length < k) (hno : Nothing c (a + 1 + n + sumLen us)) : Nothing c a := by
  rintro ⟨t, ht, hla⟩
  have hop := hla.op
  have hsh := ht.shape
  rw [← hop, hs] at hsh
  simp only [Option.some.injEq, Prod.mk.injEq] at hsh
  obtain ⟨h1, h2⟩ := hsh
  cases t with
  | n0 o d => simp [Ct.nparts] at h1; omega
  | n1 o d x =>
    simp [Ct.nparts] at h1
    have hd : d.length = n := h2.symm
    match us, hl, hk, hno with
    | [], _, _, hno =>
      have := hla.part
      rw [hd] at this
      exact hno ⟨x, ht.2, by simpa [sumLen] using this⟩
    | _ :: _, _, hk, _ => simp at hk; omega
  | n2 o d x y =>
    simp [Ct.nparts] at h1
    have hd : d.length = n := h2.symm
    have hp1 := hla.part1
    have hp2 := hla.part2
    rw [hd] at hp1 hp2
    match us, hl, hk, hno with
    | [], _, _, hno => exact hno ⟨x, ht.2.1, by simpa [sumLen] using hp1⟩
    | [u], hl, _, hno =>
      obtain rfl := hl.1.2.uniq hp1 hl.1.1 ht.2.1
      exact hno ⟨y, ht.2.2, by simpa [sumLen] using hp2⟩
    | _ :: _ :: _, _, hk, _ => simp at hk; omega
theorem nothing_shape {c : ByteArray} {a : Nat} (hs : shp (bt c a) = none) : Nothing c a := by
  rintro ⟨t, ht, hla⟩
  have := ht.shape
  rw [← hla.op, hs] at this; cases this
theorem nothing_dig {c : ByteArray} {a k n : Nat} (hs : shp (bt c a) = some (k, n)) (hd : digOk c (a + 1) n = false) : Nothing c a := by
  rintro ⟨t, ht, hla⟩
  have hsh := ht.shape
  rw [← hla.op, hs] at hsh
  simp only [Option.some.injEq, Prod.mk.injEq] at hsh
  have := hla.digOk ht
  rw [← hsh.2, hd] at this; cases this
theorem nothing_past {c : ByteArray} {a : Nat} (h : c.size ≤ a) : Nothing c a := by
  rintro ⟨t, ht, hla⟩
  have := hla.size; have := t.len_pos; omega
end Go.Proofs.YtaeibhpkcikaaaaGreatDoor

/- Blk -/
namespace Go.Proofs.YtaeibhpkcikaaaaGreatDoor
set_option linter.unusedVariables false
set_option linter.unusedSimpArgs false
open Go.RowKit Go.Shelf
set_option maxRecDepth 100000
set_option maxHeartbeats 1000000

/-- a value of several cells in a block of its own -/
structure Blk (w : World) (b : Nat) (t : TypeId) (c : Array Value) : Prop where
  eq : w.heap[b]? = some (.cells c t (0, 0))
section
variable {w : World} {b : Nat} {t : TypeId} {c : Array Value}
theorem Blk.lt (h : Blk w b t c) : b < w.heap.size := (Array.getElem?_eq_some_iff.1 h.eq).1
theorem Blk.below {w' : World} {B : Nat} (h : Blk w b t c) (hb : Below B w w') (hB : b < B) : Blk w' b t c := ⟨(hb.block b hB).trans h.eq⟩
theorem Blk.grown {w' : World} (h : Blk w b t c) (hb : Below w.heap.size w w') : Blk w' b t c := h.below hb h.lt
theorem Blk.old (h : Blk w b t c) (o : Obj) : Blk (w.alloc o) b t c := ⟨(Below.heap_alloc w o b h.lt).trans h.eq⟩
theorem Blk.new (w : World) (t : TypeId) (c : Array Value) : Blk (w.alloc (.cells c t)) w.heap.size t c := ⟨heap_alloc_new w _⟩
theorem Blk.newAt (w : World) (t : TypeId) (c : Array Value) (b : Nat) (hb : b = w.heap.size) : Blk (w.alloc (.cells c t)) b t c := by subst hb; exact Blk.new w t c
theorem Blk.drew (h : Blk w b t c) : Blk w.drew b t c := ⟨h.eq⟩
theorem Blk.drewN (h : Blk w b t c) (k : Nat) : Blk (w.drewN k) b t c := ⟨h.eq⟩
theorem Blk.setRow (h : Blk w b t c) (d : Array Value) : Blk (w.setRow b d) b t d := ⟨setRow_heap w b _ _ t _ h.eq⟩
theorem Blk.setRowOther (h : Blk w b t c) (g : Nat) (d : Array Value) (hne : b ≠ g) : Blk (w.setRow g d) b t c := ⟨(setRow_other w g b d hne).trans h.eq⟩
theorem Blk.free (h : Blk w b t c) (k : Nat) : w.frozen? ⟨b, k, none⟩ = false := frozen_of_row w b k _ t h.eq
theorem Blk.cell2 {x y : Value} (h : Blk w b t #[x, y]) : w.cell? ⟨b, 0, none⟩ = some x ∧ w.cell? ⟨b, 1, none⟩ = some y := by
  constructor
  · rw [cell_of_row w b 0 _ _ _ h.eq]; rfl
  · rw [cell_of_row w b 1 _ _ _ h.eq]; rfl
theorem Blk.cell3 {x y z : Value} (h : Blk w b t #[x, y, z]) : w.cell? ⟨b, 0, none⟩ = some x ∧ w.cell? ⟨b, 1, none⟩ = some y ∧ w.cell? ⟨b, 2, none⟩ = some z := by
  refine ⟨?_, ?_, ?_⟩
  · rw [cell_of_row w b 0 _ _ _ h.eq]; rfl
  · rw [cell_of_row w b 1 _ _ _ h.eq]; rfl
  · rw [cell_of_row w b 2 _ _ _ h.eq]; rfl
end
section
variable {P : Program} {ops : Array Oper} {rest : List Oper} {o : Oper} {a : Act} {w : World} {Q : Exit → Act → World → Prop}
theorem wp_load_Blk (hgd : o.guard = none) (ty : TypeId) (x : Operand) (ho : o.op = .load ty x) (g : Nat) (hx : a.eval x = .pointer (some ⟨g, 0, none⟩)) {t : TypeId} {c : Array Value} {d : TypeDesc}
    (hg : Blk w g t c) (hu : P.underlying ty = some d) (hd : (match d with | .struct _ | .array _ _ => true | _ => false) = true) (hi : (P.info? ty).map (·.size) = some c.size)
    (h : wpList P ops Q rest (a.put o.dst (.agg c)) w) : wpList P ops Q (o :: rest) a w :=
  wpList_load_row hgd ty x ho g hx t c (0, 0) d hg.eq hu hd hi h
theorem wp_load_BlkG (hw : Region.wanted o (yielded ops a.tmps) = true) (ty : TypeId) (x : Operand) (ho : o.op = .load ty x) (g : Nat) (hx : a.eval x = .pointer (some ⟨g, 0, none⟩)) {t : TypeId} {c : Array Value} {d : TypeDesc}
    (hg : Blk w g t c) (hu : P.underlying ty = some d) (hd : (match d with | .struct _ | .array _ _ => true | _ => false) = true) (hi : (P.info? ty).map (·.size) = some c.size)
    (h : wpList P ops Q rest (a.put o.dst (.agg c)) w) : wpList P ops Q (o :: rest) a w := by
  unfold wpList
  rw [if_pos hw]
  exact Or.inl (wp_load_row ty x ho g hx t c (0, 0) d hg.eq hu hd hi h)
theorem wp_store_Blk (hgd : o.guard = none) (ty : TypeId) (x y : Operand) (ho : o.op = .store ty x y) (g : Nat) (hx : a.eval x = .pointer (some ⟨g, 0, none⟩)) {c : Array Value} (hy : a.eval y = .agg c) {t : TypeId} {c0 : Array Value}
    (hg : Blk w g t c0) (hi : (P.info? ty).map (·.size) = some c.size) (hs : c0.size = c.size) (h1 : c.all (·.oneCell') = true)
    (h : wpList P ops Q rest (a.put o.dst undef) (w.setRow g c)) : wpList P ops Q (o :: rest) a w :=
  wpList_store_row hgd ty x y ho g c hx hy t c0 hg.eq hi (by rw [hs]) h1 h
theorem setRow_new (w0 : World) (c0 c : Array Value) (t : TypeId) : (w0.alloc (.cells c0 t)).setRow w0.heap.size c = w0.alloc (.cells c t) := by
  unfold World.setRow World.alloc
  congr 1
  apply Array.ext
  · simp
  · intro i h1 h2
    rw [Array.getElem_modify]
    by_cases e : w0.heap.size = i
    · subst e; simp
    · have : i < w0.heap.size := by simp at h2; omega
      simp [e, Array.getElem_push_lt this]
theorem wp_store_BlkNew {w0 : World} {c0 : Array Value} {t : TypeId} (hgd : o.guard = none) (ty : TypeId) (x y : Operand) (ho : o.op = .store ty x y) (hx : a.eval x = .pointer (some ⟨w0.heap.size, 0, none⟩)) {c : Array Value} (hy : a.eval y = .agg c)
    (hi : (P.info? ty).map (·.size) = some c.size) (hs : c0.size = c.size) (h1 : c.all (·.oneCell') = true)
    (h : wpList P ops Q rest (a.put o.dst undef) (w0.alloc (.cells c t))) : wpList P ops Q (o :: rest) a (w0.alloc (.cells c0 t)) := by
  refine wp_store_Blk hgd ty x y ho w0.heap.size hx hy (Blk.new w0 t c0) hi hs h1 ?_
  rw [setRow_new]; exact h
theorem ret_Blk {fn : Func} {R : Ending → World → Prop} {p : Tmp} {ty : TypeId} (h : fn.results = #[.cell p ty]) (g : Nat) (hp : a.tmps.getD p undef = .pointer (some ⟨g, 0, none⟩)) {t : TypeId} {c : Array Value} {d : TypeDesc}
    (hg : Blk w g t c) (hu : P.underlying ty = some d) (hd : (match d with | .struct _ | .array _ _ => true | _ => false) = true) (hi : (P.info? ty).map (·.size) = some c.size)
    (hdef : a.defers = []) (hR : R (.returned (.agg c)) w) : bodyPost P fn R .ret a w :=
  bodyPost_ret (results_cell_row h a.tmps w g t c (0, 0) d hp hg.eq hu hd hi) hdef hR
theorem ret_Blk2 {fn : Func} {R : Ending → World → Prop} {p u : Tmp} {ty : TypeId} (h : fn.results = #[.cell p ty, .tmp u]) (g : Nat) (hp : a.tmps.getD p undef = .pointer (some ⟨g, 0, none⟩)) {t : TypeId} {c : Array Value} {d : TypeDesc}
    (hg : Blk w g t c) (hu : P.underlying ty = some d) (hd : (match d with | .struct _ | .array _ _ => true | _ => false) = true) (hi : (P.info? ty).map (·.size) = some c.size)
    (hdef : a.defers = []) (hR : R (.returned (.tuple #[.agg c, a.tmps.getD u undef])) w) : bodyPost P fn R .ret a w := by
  refine bodyPost_ret (v := .tuple #[.agg c, a.tmps.getD u undef]) ?_ hdef hR
  rw [results_cell_tmp h, hp]
  simp only [asAddr, Sem.run_pure, Result.andThen]
  rw [run_loadVar_row w g t ty c (0, 0) d hg.eq hu hd hi]
theorem yields_Blk {S : World → Prop} {op : Oper} (hw : Region.wanted op (yielded ops a.tmps) = true) (ty : TypeId) (x : Operand) (ho : op.op = .load ty x)
    (b : Nat) (hx : a.eval x = .pointer (some ⟨b, 0, none⟩)) {t : TypeId} {c : Array Value} {d : TypeDesc} (hS : ∀ w, S w → Blk w b t c)
    (hu : P.underlying ty = some d) (hd : (match d with | .struct _ | .array _ _ => true | _ => false) = true) (hi : (P.info? ty).map (·.size) = some c.size) : YieldsIf P ops S op (.agg c) a :=
  .inl ⟨hw, fun w hw' => by
    unfold execOp
    simp only [ho, hx, Instr.loadAt, Instr.sureAddr, Sem.run_bind, Sem.run_pure, Result.andThen_ok, run_loadVar_row w b t ty c (0, 0) d (hS w hw').eq hu hd hi]⟩
theorem op_store_Blk {K : Act → World → Prop} (ty : TypeId) (x y : Operand) (ho : o.op = .store ty x y)
    (g : Nat) (hx : a.eval x = .pointer (some ⟨g, 0, none⟩)) {c : Array Value} (hy : a.eval y = .agg c) {t : TypeId} {c0 : Array Value}
    (hg : Blk w g t c0) (hi : (P.info? ty).map (·.size) = some c.size) (hs : c0.size = c.size) (h1 : c.all (·.oneCell') = true)
    (h : K (a.put o.dst undef) (w.setRow g c)) : o.wp P a w K Q :=
  wp_store_row ty x y ho g c hx hy t c0 hg.eq hi (by rw [hs]) h1 h
theorem op_append_own {K : Act → World → Prop} (s x : Operand) (t : TypeId)
    (ho : o.op = .call { callee := .builtin .append, args := #[s, x], argTypes := #[t, t] })
    (base : Nat) (e : TypeId) (i : TypeInfo) (z : Value) (size bytes : Nat) (ht : P.underlying t = some (.slice e)) (hi : P.info? e = some i) (hz : i.zero = some z)
    (hsize : i.size = size) (hby : i.bytes = bytes) (hzs : z.cells.size = size) (hsz : 0 < size)
    (v : Value) (n : Nat) (xs : List Value) (hs : a.eval s = v) (hown : w.ownsRow base e size v n xs)
    (ad : Addr) (m c : Nat) (news : List Value) (hx : a.eval x = .slice (some ad) m c) (hl : news.length = m * size) (hnews : ∀ j u, news[j]? = some u → w.cell? (ad.add j) = some u) (h1 : ∀ u ∈ news, u.oneCell' = true)
    (h63 : n + m ≤ maxLen) (hbytes : (n + m) * bytes ≤ 140737488355328) (hbase : base ≤ w.heap.size)
    (h : ∀ v' w', w'.ownsRow base e size v' (n + m) (xs ++ news) → w.grownBy w' v.ownBlock → (v' = .slice none 0 0 ↔ v = .slice none 0 0 ∧ m = 0) → (v'.ownBlock = v.ownBlock ∨ v'.ownBlock = some w.heap.size) → K (a.put o.dst v') w') :
    o.wp P a w K Q := by
  obtain ⟨v', w', hr, h2, h3, h4, h5⟩ := run_append_own_at (P := P) w base t o.type e i z size bytes ht hi hz hsize hby hzs hsz v n xs hown ad m c news hl hnews h1 h63 hbytes hbase
  unfold Oper.wp execOp
  simp only [ho, resolve, invoke, builtin, Sem.run_bind, Sem.run_pure, Result.andThen_ok, List.map_toArray, List.map_cons, List.map_nil, hs, hx, hr]
  exact h v' w' h2 h3 h4 h5
end
end Go.Proofs.YtaeibhpkcikaaaaGreatDoor

/- Str -/
namespace Go.Proofs.YtaeibhpkcikaaaaGreatDoor
set_option linter.unusedVariables false
set_option linter.unusedSimpArgs false
open Go.RowKit Go.Shelf
set_option maxRecDepth 100000
set_option maxHeartbeats 4000000

theorem u8_info : (Tryz.prog.info? 5).map (fun i => (i.zero, i.size, i.bytes)) = some (some (.int .u8 0), 1, 1) := by kernel_rfl
end Go.Proofs.YtaeibhpkcikaaaaGreatDoor
