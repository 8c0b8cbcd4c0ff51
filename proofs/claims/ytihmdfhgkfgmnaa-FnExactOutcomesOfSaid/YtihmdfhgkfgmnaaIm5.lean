/- Contracts: the program's reading of contracts into trees. -/
import Derived.Test.YtihmdfhgkfgmnaaSp5c
import Derived.Test.YtihmdfhgkfgmnaaIm3b
import Derived.Deep.MidRow
namespace Go.Proofs.Ytihmdfhgkfgmnaa
set_option linter.unusedVariables false
set_option linter.unusedSimpArgs false
open Go.RowKit Go.Shelf
set_option maxRecDepth 100000
set_option maxHeartbeats 1000000

/-- how many parts (-1: no statement) and digits a letter has, as the program tells it -/
def shpI (b : UInt8) : Int × Int := match shp b with
  | some (k, n) => (k, n)
  | none => (-1, 0)
theorem shpI_some {b : UInt8} {k n : Nat} (h : shp b = some (k, n)) : shpI b = ((k : Int), (n : Int)) := by unfold shpI; rw [h]
theorem shpI_none {b : UInt8} (h : shp b = none) : shpI b = (-1, 0) := by unfold shpI; rw [h]
theorem shp_all {b : UInt8} (h : shp b ≠ none) : b = 115 ∨ b = 97 ∨ b = 109 ∨ b = 33 ∨ b = 63 ∨ b = 65 ∨ b = 68 ∨ b = 59 ∨ b = 38 ∨ b = 124 ∨ b = 105 ∨ b = 119 ∨ b = 42 ∨ b = 43 := by
  refine Classical.byContradiction fun hn => h ?_
  simp only [not_or] at hn
  obtain ⟨h1, h2, h3, h4, h5, h6, h7, h8, h9, h10, h11, h12, h13, h14⟩ := hn
  simp [shp, h1, h2, h3, h4, h5, h6, h7, h8, h9, h10, h11, h12, h13, h14]
theorem impl_shapeOf (b : UInt8) (w : World) : Calls Try.prog 107 #[.int .u8 (b.toNat : Int)] w fun e w' => e = .returned (.tuple #[.int .i64 (shpI b).1, .int .i64 (shpI b).2]) ∧ w = w' := by
  by_cases h : shp b = none
  · obtain ⟨h1, h2, h3, h4, h5, h6, h7, h8, h9, h10, h11, h12, h13, h14⟩ := shp_none h
    have HI := Lib.hid (shpI_none h)
    have e1 := u8_ne (n := 115) h1 rfl
    have e2 := u8_ne (n := 97) h2 rfl
    have e3 := u8_ne (n := 109) h3 rfl
    have e4 := u8_ne (n := 33) h4 rfl
    have e5 := u8_ne (n := 63) h5 rfl
    have e6 := u8_ne (n := 65) h6 rfl
    have e7 := u8_ne (n := 68) h7 rfl
    have e8 := u8_ne (n := 59) h8 rfl
    have e9 := u8_ne (n := 38) h9 rfl
    have e10 := u8_ne (n := 124) h10 rfl
    have e11 := u8_ne (n := 105) h11 rfl
    have e12 := u8_ne (n := 119) h12 rfl
    have e13 := u8_ne (n := 42) h13 rfl
    have e14 := u8_ne (n := 43) h14 rfl
    clear h h1 h2 h3 h4 h5 h6 h7 h8 h9 h10 h11 h12 h13 h14
    go_enter Try.func107, Try.ntmps107
    go_wp2_with fail
    go_ret2
    rw [HI.out]
    exact ⟨rfl, rfl⟩
  · rcases shp_all h with rfl | rfl | rfl | rfl | rfl | rfl | rfl | rfl | rfl | rfl | rfl | rfl | rfl | rfl
    all_goals
      clear h
      go_enter Try.func107, Try.ntmps107
      go_wp2_with fail
      go_ret2
      exact ⟨rfl, rfl⟩

/-- a statement in memory -/
structure Node (w : World) (b : Nat) (o : UInt8) (p : Int) (r : Nat → Int) (pv : Value) (tx : ByteArray) : Prop where
  eq : w.heap[b]? = some (.cells #[.int .u8 (o.toNat : Int), .int .i64 p, .int .i64 (r 0), .int .i64 (r 1), .int .i64 (r 2), .int .i64 (r 3), pv, .string tx] 54 (0, 0))
section
variable {w : World} {b : Nat} {o : UInt8} {p : Int} {r : Nat → Int} {pv : Value} {tx : ByteArray}
theorem Node.op (h : Node w b o p r pv tx) : w.cell? ⟨b, 0, none⟩ = some (.int .u8 (o.toNat : Int)) := by rw [cell_of_row w b 0 _ _ _ h.eq]; rfl
theorem Node.cp (h : Node w b o p r pv tx) : w.cell? ⟨b, 1, none⟩ = some (.int .i64 p) := by rw [cell_of_row w b 1 _ _ _ h.eq]; rfl
theorem Node.cr (h : Node w b o p r pv tx) (k : Nat) (hk : k < 4) : w.cell? ⟨b, 2 + k, none⟩ = some (.int .i64 (r k)) := by
  rw [cell_of_row w b (2 + k) _ _ _ h.eq]
  obtain rfl | rfl | rfl | rfl : k = 0 ∨ k = 1 ∨ k = 2 ∨ k = 3 := by omega
  all_goals rfl
theorem Node.parts (h : Node w b o p r pv tx) : w.cell? ⟨b, 6, none⟩ = some pv := by rw [cell_of_row w b 6 _ _ _ h.eq]; rfl
theorem Node.text (h : Node w b o p r pv tx) : w.cell? ⟨b, 7, none⟩ = some (.string tx) := by rw [cell_of_row w b 7 _ _ _ h.eq]; rfl
theorem Node.free (h : Node w b o p r pv tx) (k : Nat) : w.frozen? ⟨b, k, none⟩ = false := frozen_of_row w b k _ _ h.eq
theorem Node.lt (h : Node w b o p r pv tx) : b < w.heap.size := (Array.getElem?_eq_some_iff.1 h.eq).1
theorem Node.grown {w' : World} (h : Node w b o p r pv tx) (hb : Below w.heap.size w w') : Node w' b o p r pv tx := ⟨(hb.block b h.lt).trans h.eq⟩
theorem Node.kept {w' : World} (h : Node w b o p r pv tx) (hb : w'.heap[b]? = w.heap[b]?) : Node w' b o p r pv tx := ⟨hb.trans h.eq⟩
theorem Node.setP (h : Node w b o p r pv tx) (v : Int) : Node (w.setCell ⟨b, 1, none⟩ (.int .i64 v)) b o v r pv tx := ⟨by rw [heap_setCell_same w b 1 _ _ _ h.eq]; rfl⟩
theorem Node.setR (h : Node w b o p r pv tx) (k : Nat) (hk : k < 4) (v : Int) : Node (w.setCell ⟨b, 2 + k, none⟩ (.int .i64 v)) b o p (upd r k v) pv tx := by
  refine ⟨?_⟩
  rw [heap_setCell_same w b (2 + k) _ _ _ h.eq]
  obtain rfl | rfl | rfl | rfl : k = 0 ∨ k = 1 ∨ k = 2 ∨ k = 3 := by omega
  all_goals rfl
theorem Node.setParts (h : Node w b o p r pv tx) (v : Value) : Node (w.setCell ⟨b, 6, none⟩ v) b o p r v tx := ⟨by rw [heap_setCell_same w b 6 _ _ _ h.eq]; rfl⟩
theorem Node.setText (h : Node w b o p r pv tx) (v : ByteArray) : Node (w.setCell ⟨b, 7, none⟩ (.string v)) b o p r pv v := ⟨by rw [heap_setCell_same w b 7 _ _ _ h.eq]; rfl⟩
theorem Node.ext {p' : Int} {r' : Nat → Int} (h : Node w b o p r pv tx) (hp : p = p') (hr : ∀ k, k < 4 → r k = r' k) : Node w b o p' r' pv tx :=
  ⟨by rw [h.eq, hp, hr 0 (by decide), hr 1 (by decide), hr 2 (by decide), hr 3 (by decide)]⟩
end
def ptr (b : Nat) : Value := .pointer (some ⟨b, 0, none⟩)
def lastD (d : List Int) : Int := d.getLastD 0
def relD (d : List Int) (k : Nat) : Int := if d.length = 4 then dsF d k else 0
/-- a contract in memory, in blocks of S -/
def Tree (w : World) (S : Nat → Prop) : Ct → Nat → Prop
  | .n0 o d, b => S b ∧ Node w b o (lastD d) (relD d) (.slice none 0 0) (Ct.n0 o d).text
  | .n1 o d x, b => ∃ g cap c, (S b ∧ S g) ∧ Node w b o (lastD d) (relD d) (.slice (some ⟨g, 0, none⟩) 1 cap) (Ct.n1 o d x).text ∧ w.cell? ⟨g, 0, none⟩ = some (ptr c) ∧ Tree w S x c
  | .n2 o d x y, b => ∃ g cap c e, (S b ∧ S g) ∧ Node w b o (lastD d) (relD d) (.slice (some ⟨g, 0, none⟩) 2 cap) (Ct.n2 o d x y).text ∧ w.cell? ⟨g, 0, none⟩ = some (ptr c) ∧ w.cell? ⟨g, 1, none⟩ = some (ptr e) ∧ Tree w S x c ∧ Tree w S y e
theorem Tree.grown {w w' : World} {S : Nat → Prop} (hb : Below w.heap.size w w') : ∀ (t : Ct) (b : Nat), Tree w S t b → Tree w' S t b
  | .n0 _ _, _, ⟨h0, h⟩ => ⟨h0, Node.grown h hb⟩
  | .n1 _ _ x, _, ⟨g, cap, c, h0, h1, h2, h3⟩ => ⟨g, cap, c, h0, h1.grown hb, cell_grown h2 hb, Tree.grown hb x c h3⟩
  | .n2 _ _ x y, _, ⟨g, cap, c, e, h0, h1, h2, h3, h4, h5⟩ => ⟨g, cap, c, e, h0, h1.grown hb, cell_grown h2 hb, cell_grown h3 hb, Tree.grown hb x c h4, Tree.grown hb y e h5⟩
theorem cell_kept {w w' : World} {g k : Nat} {v : Value} (h : w.cell? ⟨g, k, none⟩ = some v) (e : w'.heap[g]? = w.heap[g]?) : w'.cell? ⟨g, k, none⟩ = some v := (World.cell?_of_block e).trans h
/-- what turns no block of S leaves it -/
theorem Tree.kept {w w' : World} {S : Nat → Prop} (hb : ∀ k, S k → k < w.heap.size → w'.heap[k]? = w.heap[k]?) : ∀ (t : Ct) (b : Nat), Tree w S t b → Tree w' S t b
  | .n0 _ _, _, ⟨h0, h⟩ => ⟨h0, Node.kept h (hb _ h0 h.lt)⟩
  | .n1 _ _ x, _, ⟨g, cap, c, h0, h1, h2, h3⟩ => ⟨g, cap, c, h0, h1.kept (hb _ h0.1 h1.lt), cell_kept h2 (hb _ h0.2 (block_lt_of_cell h2)), Tree.kept hb x c h3⟩
  | .n2 _ _ x y, _, ⟨g, cap, c, e, h0, h1, h2, h3, h4, h5⟩ => ⟨g, cap, c, e, h0, h1.kept (hb _ h0.1 h1.lt), cell_kept h2 (hb _ h0.2 (block_lt_of_cell h2)), cell_kept h3 (hb _ h0.2 (block_lt_of_cell h2)), Tree.kept hb x c h4, Tree.kept hb y e h5⟩
theorem Tree.weaken {w : World} {S S' : Nat → Prop} (hS : ∀ k, S k → k < w.heap.size → S' k) : ∀ (t : Ct) (b : Nat), Tree w S t b → Tree w S' t b
  | .n0 _ _, _, ⟨h0, h⟩ => ⟨hS _ h0 h.lt, h⟩
  | .n1 _ _ x, _, ⟨g, cap, c, h0, h1, h2, h3⟩ => ⟨g, cap, c, ⟨hS _ h0.1 h1.lt, hS _ h0.2 (block_lt_of_cell h2)⟩, h1, h2, Tree.weaken hS x c h3⟩
  | .n2 _ _ x y, _, ⟨g, cap, c, e, h0, h1, h2, h3, h4, h5⟩ => ⟨g, cap, c, e, ⟨hS _ h0.1 h1.lt, hS _ h0.2 (block_lt_of_cell h2)⟩, h1, h2, h3, Tree.weaken hS x c h4, Tree.weaken hS y e h5⟩
/-- a list of contracts in memory -/
def Trees (w : World) (S : Nat → Prop) : List Ct → List Nat → Prop
  | [], [] => True
  | t :: ts, b :: bs => Tree w S t b ∧ Trees w S ts bs
  | _, _ => False
theorem Trees.map {w w' : World} {S S' : Nat → Prop} (f : ∀ t b, Tree w S t b → Tree w' S' t b) : ∀ (ts : List Ct) (bs : List Nat), Trees w S ts bs → Trees w' S' ts bs
  | [], [], _ => trivial
  | t :: ts, b :: bs, ⟨h, k⟩ => ⟨f t b h, Trees.map f ts bs k⟩
  | [], _ :: _, h => h
  | _ :: _, [], h => h
theorem Trees.snoc {w : World} {S : Nat → Prop} : ∀ (ts : List Ct) (bs : List Nat) (t : Ct) (b : Nat), Trees w S ts bs → Tree w S t b → Trees w S (ts ++ [t]) (bs ++ [b])
  | [], [], _, _, _, h => ⟨h, trivial⟩
  | _ :: ts, _ :: bs, t, b, ⟨h, k⟩, h2 => ⟨h, Trees.snoc ts bs t b k h2⟩
  | [], _ :: _, _, _, h, _ => h.elim
  | _ :: _, [], _, _, h, _ => h.elim
theorem Trees.length {w : World} {S : Nat → Prop} : ∀ (ts : List Ct) (bs : List Nat), Trees w S ts bs → ts.length = bs.length
  | [], [], _ => rfl
  | _ :: ts, _ :: bs, ⟨_, k⟩ => by simp [Trees.length ts bs k]
  | [], _ :: _, h => h.elim
  | _ :: _, [], h => h.elim
/-- contracts that lie one behind the other -/
def LieFrom (c : ByteArray) (a : Nat) : List Ct → Prop
  | [] => True
  | t :: ts => (t.WF ∧ LiesAt c a t) ∧ LieFrom c (a + t.len) ts
theorem LieFrom.snoc {c : ByteArray} : ∀ (ts : List Ct) (a : Nat) (t : Ct), LieFrom c a ts → t.WF → LiesAt c (a + sumLen ts) t → LieFrom c a (ts ++ [t])
  | [], a, t, _, h, k => ⟨⟨h, by simpa [sumLen] using k⟩, trivial⟩
  | x :: ts, a, t, ⟨h1, h2⟩, h, k => ⟨h1, LieFrom.snoc ts (a + x.len) t h2 h (by rw [Nat.add_assoc]; simpa [sumLen] using k)⟩
theorem ptrs_cell {w : World} {base : Nat} {e : TypeId} {v : Value} {bs : List Nat} (h : w.ownsRow base e 1 v bs.length (bs.map ptr)) (hne : bs ≠ []) :
    ∃ g cap, v = .slice (some ⟨g, 0, none⟩) bs.length cap ∧ base ≤ g ∧ ∀ j b, bs[j]? = some b → w.cell? ⟨g, j, none⟩ = some (ptr b) := by
  rcases h.2 with ⟨_, h0⟩ | ⟨g, cap, cur, rfl, hg, _⟩
  · exact absurd (List.eq_nil_of_length_eq_zero h0) hne
  · refine ⟨g, cap, rfl, hg, fun j b hj => ?_⟩
    have h1 := World.ownsRow.cells h (g := g) rfl j (ptr b) (by simp [hj])
    have h2 : (⟨g, 0, none⟩ : Addr).add j = ⟨g, j, none⟩ := by unfold Addr.add; split <;> simp_all
    rwa [h2] at h1
theorem ptrs_nil {w : World} {base : Nat} {e : TypeId} {v : Value} (h : w.ownsRow base e 1 v 0 []) (hn : v.ownBlock = none) : v = .slice none 0 0 := by
  rcases h.2 with ⟨h0, _⟩ | ⟨g, cap, cur, rfl, _⟩
  · exact h0
  · simp [Value.ownBlock] at hn
theorem grown_of {w w' : World} (hb : Below w.heap.size w w') : w.grownBy w' none := ⟨hb.os, hb.tape, hb.output, hb.size, fun k hk _ => hb.block k hk⟩
theorem own_below {w w' : World} {base size n : Nat} {e : TypeId} {v : Value} {xs : List Value} (h : w.ownsRow base e size v n xs) (hb : Below w.heap.size w w') : w'.ownsRow base e size v n xs :=
  h.kept (grown_of hb) (by cases v.ownBlock <;> simp)
/-- a contract is made of what was read -/
theorem tree_made {w : World} {S : Nat → Prop} {c : ByteArray} {a b n base : Nat} {pv : Value} {us : List Ct} {bs : List Nat} {p : Int} {r : Nat → Int} {tx : ByteArray} (hs : shp (bt c a) = some (us.length, n)) (hd : digOk c (a + 1) n = true)
    (hl : LieFrom c (a + 1 + n) us) (hN : Node w b (bt c a) p r pv tx) (hp : p = lastD (digsAt c (a + 1) n)) (hr : ∀ k, k < 4 → r k = relD (digsAt c (a + 1) n) k)
    (ho : w.ownsRow base 42 1 pv us.length (bs.map ptr)) (hpv : us = [] → pv.ownBlock = none) (ht : Trees w S us bs) (hSb : S b) (hSg : ∀ g, pv.ownBlock = some g → S g) :
    ∃ t : Ct, t.WF ∧ LiesAt c a t ∧ t.len = 1 + n + sumLen us ∧ (tx = t.text → Tree w S t b) := by
  have h1 := digOk_size hd
  have h2 := digOk_hx hd
  have h3 := digsAt_c h2
  have hlen := ht.length
  have hN' := hN.ext hp hr
  match us, bs, hs, hl, ho, hpv, ht, hlen with
  | [], [], hs, hl, ho, hpv, ht, _ =>
    refine ⟨.n0 (bt c a) (digsAt c (a + 1) n), ⟨by rw [digsAt_len]; exact hs, h3⟩, lies_n0 h1 h2, by rw [Ct.len0, digsAt_len]; simp [sumLen], fun e => ?_⟩
    subst e
    rw [ptrs_nil ho (hpv rfl)] at hN'
    exact ⟨hSb, hN'⟩
  | [x], [bx], hs, hl, ho, hpv, ht, _ =>
    refine ⟨.n1 (bt c a) (digsAt c (a + 1) n) x, ⟨⟨by rw [digsAt_len]; exact hs, h3⟩, hl.1.1⟩, lies_n1 h1 h2 hl.1.2, by rw [Ct.len1, digsAt_len]; simp [sumLen], fun e => ?_⟩
    subst e
    obtain ⟨g, cap, rfl, _, hc⟩ := ptrs_cell (bs := [bx]) ho (by simp)
    exact ⟨g, cap, bx, ⟨hSb, hSg g rfl⟩, hN', hc 0 bx rfl, ht.1⟩
  | [x, y], [bx, by'], hs, hl, ho, hpv, ht, _ =>
    refine ⟨.n2 (bt c a) (digsAt c (a + 1) n) x y, ⟨⟨by rw [digsAt_len]; exact hs, h3⟩, hl.1.1, hl.2.1.1⟩, lies_n2 h1 h2 hl.1.2 hl.2.1.2, by rw [Ct.len2, digsAt_len]; simp [sumLen], fun e => ?_⟩
    subst e
    obtain ⟨g, cap, rfl, _, hc⟩ := ptrs_cell (bs := [bx, by']) ho (by simp)
    exact ⟨g, cap, bx, by', ⟨hSb, hSg g rfl⟩, hN', hc 0 bx rfl, hc 1 by' rfl, ht.1, ht.2.1⟩
  | x :: y :: z :: us, bs, hs, _, _, _, _, _ => have := shp_le hs; simp at this
/-- where a part is missing nothing lies -/
theorem nothing_part {c : ByteArray} {a k n : Nat} {us : List Ct} (hs : shp (bt c a) = some (k, n)) (hl : LieFrom c (a + 1 + n) us) (hk : us.length < k) (hno : Nothing c (a + 1 + n + sumLen us)) : Nothing c a := by
  rintro ⟨t, ht, hla⟩
  have hop := hla.op
  have hsh := ht.shape
  rw [← hop, hs] at hsh
  simp only [Option.some.injEq, Prod.mk.injEq] at hsh
  obtain ⟨h1, h2⟩ := hsh
  cases t with
  | n0 o d => simp [Ct.nparts] at h1; omega
  | n1 o d x =>
    simp [Ct.nparts] at h1
    have hd : d.length = n := h2.symm
    match us, hl, hk, hno with
    | [], _, _, hno =>
      have := hla.part
      rw [hd] at this
      exact hno ⟨x, ht.2, by simpa [sumLen] using this⟩
    | _ :: _, _, hk, _ => simp at hk; omega
  | n2 o d x y =>
    simp [Ct.nparts] at h1
    have hd : d.length = n := h2.symm
    have hp1 := hla.part1
    have hp2 := hla.part2
    rw [hd] at hp1 hp2
    match us, hl, hk, hno with
    | [], _, _, hno => exact hno ⟨x, ht.2.1, by simpa [sumLen] using hp1⟩
    | [u], hl, _, hno =>
      obtain rfl := hl.1.2.uniq hp1 hl.1.1 ht.2.1
      exact hno ⟨y, ht.2.2, by simpa [sumLen] using hp2⟩
    | _ :: _ :: _, _, hk, _ => simp at hk; omega
theorem nothing_shape {c : ByteArray} {a : Nat} (hs : shp (bt c a) = none) : Nothing c a := by
  rintro ⟨t, ht, hla⟩
  have := ht.shape
  rw [← hla.op, hs] at this; cases this
theorem nothing_dig {c : ByteArray} {a k n : Nat} (hs : shp (bt c a) = some (k, n)) (hd : digOk c (a + 1) n = false) : Nothing c a := by
  rintro ⟨t, ht, hla⟩
  have hsh := ht.shape
  rw [← hla.op, hs] at hsh
  simp only [Option.some.injEq, Prod.mk.injEq] at hsh
  have := hla.digOk ht
  rw [← hsh.2, hd] at this; cases this
theorem nothing_past {c : ByteArray} {a : Nat} (h : c.size ≤ a) : Nothing c a := by
  rintro ⟨t, ht, hla⟩
  have := hla.size; have := t.len_pos; omega
end Go.Proofs.Ytihmdfhgkfgmnaa
