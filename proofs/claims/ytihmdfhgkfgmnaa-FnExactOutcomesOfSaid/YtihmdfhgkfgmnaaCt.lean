/- Contracts as trees, their texts, where they lie in a text, and their transformers. No program in sight. -/
import Derived.Test.YtihmdfhgkfgmnaaRes2
namespace Go.Proofs.Ytihmdfhgkfgmnaa
set_option linter.unusedVariables false
set_option linter.unusedSimpArgs false
open Go.RowKit

theorem size_l (c : ByteArray) : c.data.toList.length = c.size := rfl
/-- a contract: a letter, digits, and at most two parts -/
inductive Ct where
  | n0 (op : UInt8) (ds : List Int)
  | n1 (op : UInt8) (ds : List Int) (x : Ct)
  | n2 (op : UInt8) (ds : List Int) (x y : Ct)
/-- how many parts and how many digits a letter has -/
def shp (b : UInt8) : Option (Nat × Nat) :=
  if b = 115 ∨ b = 97 ∨ b = 109 then some (0, 0) else if b = 33 ∨ b = 63 then some (0, 1) else if b = 65 ∨ b = 68 then some (0, 4)
  else if b = 59 ∨ b = 38 ∨ b = 124 then some (2, 0) else if b = 105 then some (2, 1) else if b = 119 then some (1, 1) else if b = 42 ∨ b = 43 then some (1, 0) else none
namespace Ct
def op : Ct → UInt8
  | n0 o _ => o
  | n1 o _ _ => o
  | n2 o _ _ _ => o
def ds : Ct → List Int
  | n0 _ d => d
  | n1 _ d _ => d
  | n2 _ d _ _ => d
def nparts : Ct → Nat
  | n0 _ _ => 0
  | n1 _ _ _ => 1
  | n2 _ _ _ _ => 2
/-- each statement has its digits and parts -/
def WF : Ct → Prop
  | n0 o d => shp o = some (0, d.length) ∧ ∀ k ∈ d, C k
  | n1 o d x => (shp o = some (1, d.length) ∧ ∀ k ∈ d, C k) ∧ x.WF
  | n2 o d x y => (shp o = some (2, d.length) ∧ ∀ k ∈ d, C k) ∧ x.WF ∧ y.WF
def bytes : Ct → List UInt8
  | n0 o d => o :: d.map dg
  | n1 o d x => o :: (d.map dg ++ x.bytes)
  | n2 o d x y => o :: (d.map dg ++ (x.bytes ++ y.bytes))
def len (t : Ct) : Nat := t.bytes.length
def text (t : Ct) : ByteArray := ⟨t.bytes.toArray⟩
theorem len_pos (t : Ct) : 1 ≤ t.len := by cases t <;> simp [len, bytes]
theorem len0 (o : UInt8) (d : List Int) : (n0 o d).len = 1 + d.length := by simp [len, bytes]; omega
theorem len1 (o : UInt8) (d : List Int) (x : Ct) : (n1 o d x).len = 1 + d.length + x.len := by simp [len, bytes]; omega
theorem len2 (o : UInt8) (d : List Int) (x y : Ct) : (n2 o d x y).len = 1 + d.length + (x.len + y.len) := by simp [len, bytes]; omega
theorem text_size (t : Ct) : t.text.size = t.len := rfl
theorem WF.shape {t : Ct} (h : t.WF) : shp t.op = some (t.nparts, t.ds.length) := by
  cases t <;> simp only [WF] at h
  · exact h.1
  · exact h.1.1
  · exact h.1.1
theorem WF.dig {t : Ct} (h : t.WF) : ∀ k ∈ t.ds, C k := by
  cases t <;> simp only [WF] at h
  · exact h.2
  · exact h.1.2
  · exact h.1.2
end Ct
theorem dg_inj {a b : Int} (ha : C a) (hb : C b) (h : dg a = dg b) : a = b := by
  have := congrArg hx h
  rwa [hx_dg a ha.1 ha.2, hx_dg b hb.1 hb.2] at this
theorem map_dg_inj {l m : List Int} (hl : ∀ k ∈ l, C k) (hm : ∀ k ∈ m, C k) (h : l.map dg = m.map dg) : l = m := by
  induction l generalizing m with
  | nil => cases m with
    | nil => rfl
    | cons b m => simp at h
  | cons a l ih => cases m with
    | nil => simp at h
    | cons b m =>
      simp only [List.map_cons, List.cons.injEq] at h
      rw [dg_inj (hl a (by simp)) (hm b (by simp)) h.1, ih (fun k hk => hl k (by simp [hk])) (fun k hk => hm k (by simp [hk])) h.2]
theorem app_inj {l m : List Int} {r s : List UInt8} (hlen : l.length = m.length) (hl : ∀ k ∈ l, C k) (hm : ∀ k ∈ m, C k) (h : l.map dg ++ r = m.map dg ++ s) : l = m ∧ r = s := by
  have := List.append_inj h (by simp [hlen])
  exact ⟨map_dg_inj hl hm this.1, this.2⟩
/-- no contract's text begins another's -/
theorem Ct.uniq : ∀ (t u : Ct) (r s : List UInt8), t.WF → u.WF → t.bytes ++ r = u.bytes ++ s → t = u ∧ r = s
  | .n0 o d, .n0 o' d', r, s, h, k, e => by
    simp only [bytes, List.cons_append, List.cons.injEq] at e
    obtain ⟨rfl, e⟩ := e
    have hl : d.length = d'.length := by have := h.1.symm.trans k.1; simpa using this
    obtain ⟨rfl, e2⟩ := app_inj hl h.2 k.2 e
    exact ⟨rfl, e2⟩
  | .n1 o d x, .n1 o' d' x', r, s, h, k, e => by
    simp only [bytes, List.cons_append, List.cons.injEq, List.append_assoc] at e
    obtain ⟨rfl, e⟩ := e
    have hl : d.length = d'.length := by have := h.1.1.symm.trans k.1.1; simpa using this
    obtain ⟨rfl, e2⟩ := app_inj hl h.1.2 k.1.2 e
    obtain ⟨rfl, e3⟩ := Ct.uniq x x' r s h.2 k.2 e2
    exact ⟨rfl, e3⟩
  | .n2 o d x y, .n2 o' d' x' y', r, s, h, k, e => by
    simp only [bytes, List.cons_append, List.cons.injEq, List.append_assoc] at e
    obtain ⟨rfl, e⟩ := e
    have hl : d.length = d'.length := by have := h.1.1.symm.trans k.1.1; simpa using this
    obtain ⟨rfl, e2⟩ := app_inj hl h.1.2 k.1.2 e
    obtain ⟨rfl, e3⟩ := Ct.uniq x x' _ _ h.2.1 k.2.1 e2
    obtain ⟨rfl, e4⟩ := Ct.uniq y y' r s h.2.2 k.2.2 e3
    exact ⟨rfl, e4⟩
  | .n0 o d, .n1 o' d' x', r, s, h, k, e => by
    simp only [bytes, List.cons_append, List.cons.injEq] at e
    obtain ⟨rfl, e⟩ := e
    have := h.1.symm.trans k.1.1; simp at this
  | .n0 o d, .n2 o' d' x' y', r, s, h, k, e => by
    simp only [bytes, List.cons_append, List.cons.injEq] at e
    obtain ⟨rfl, e⟩ := e
    have := h.1.symm.trans k.1.1; simp at this
  | .n1 o d x, .n0 o' d', r, s, h, k, e => by
    simp only [bytes, List.cons_append, List.cons.injEq] at e
    obtain ⟨rfl, e⟩ := e
    have := h.1.1.symm.trans k.1; simp at this
  | .n1 o d x, .n2 o' d' x' y', r, s, h, k, e => by
    simp only [bytes, List.cons_append, List.cons.injEq] at e
    obtain ⟨rfl, e⟩ := e
    have := h.1.1.symm.trans k.1.1; simp at this
  | .n2 o d x y, .n0 o' d', r, s, h, k, e => by
    simp only [bytes, List.cons_append, List.cons.injEq] at e
    obtain ⟨rfl, e⟩ := e
    have := h.1.1.symm.trans k.1; simp at this
  | .n2 o d x y, .n1 o' d' x', r, s, h, k, e => by
    simp only [bytes, List.cons_append, List.cons.injEq] at e
    obtain ⟨rfl, e⟩ := e
    have := h.1.1.symm.trans k.1.1; simp at this

/-! ### where a contract lies in a text -/
/-- the text of t lies in c from a place on -/
def LiesAt (c : ByteArray) (a : Nat) (t : Ct) : Prop := ∃ r, c.data.toList.drop a = t.bytes ++ r
theorem LiesAt.size {c : ByteArray} {a : Nat} {t : Ct} (h : LiesAt c a t) : a + t.len ≤ c.size := by
  obtain ⟨r, h⟩ := h
  have := congrArg List.length h
  simp only [List.length_drop, List.length_append] at this
  have h1 := t.len_pos
  have e := size_l c
  unfold Ct.len at *
  omega
theorem LiesAt.uniq {c : ByteArray} {a : Nat} {t u : Ct} (h : LiesAt c a t) (k : LiesAt c a u) (ht : t.WF) (hu : u.WF) : t = u := by
  obtain ⟨r, h⟩ := h; obtain ⟨s, k⟩ := k
  exact (Ct.uniq t u r s ht hu (h.symm.trans k)).1
theorem bt_drop (c : ByteArray) (a j : Nat) : bt c (a + j) = (c.data.toList.drop a).getD j 0 := by
  simp [bt, List.getD_eq_getElem?_getD, List.getElem?_drop]
theorem LiesAt.at {c : ByteArray} {a : Nat} {t : Ct} (h : LiesAt c a t) (j : Nat) (hj : j < t.len) : bt c (a + j) = t.bytes.getD j 0 := by
  obtain ⟨r, h⟩ := h
  rw [bt_drop, h]
  simp only [List.getD_eq_getElem?_getD]
  rw [List.getElem?_append_left hj]
theorem Ct.bytes_head (t : Ct) : ∃ r, t.bytes = t.op :: (t.ds.map dg ++ r) := by
  cases t
  · exact ⟨[], by simp [bytes, op, ds]⟩
  · exact ⟨_, rfl⟩
  · exact ⟨_, rfl⟩
theorem LiesAt.op {c : ByteArray} {a : Nat} {t : Ct} (h : LiesAt c a t) : bt c a = t.op := by
  have := h.at 0 t.len_pos
  obtain ⟨r, e⟩ := t.bytes_head
  rw [e] at this
  simpa using this
theorem Ct.len_head (t : Ct) : 1 + t.ds.length ≤ t.len := by
  obtain ⟨r, e⟩ := t.bytes_head
  unfold len; rw [e]; simp; omega
theorem LiesAt.dig {c : ByteArray} {a : Nat} {t : Ct} (h : LiesAt c a t) (j : Nat) (hj : j < t.ds.length) : bt c (a + 1 + j) = dg (t.ds.getD j 0) := by
  have h1 := h.at (1 + j) (by have := t.len_head; omega)
  obtain ⟨r, e⟩ := t.bytes_head
  rw [e, show a + (1 + j) = a + 1 + j by omega, show 1 + j = j + 1 by omega] at h1
  rw [h1]
  simp only [List.getD_eq_getElem?_getD, List.getElem?_cons_succ]
  rw [List.getElem?_append_left (by simpa using hj)]
  simp [hj]
theorem LiesAt.hx {c : ByteArray} {a : Nat} {t : Ct} (h : LiesAt c a t) (ht : t.WF) (j : Nat) (hj : j < t.ds.length) : hx (bt c (a + 1 + j)) = t.ds.getD j 0 := by
  rw [h.dig j hj]
  have hc : C (t.ds.getD j 0) := ht.dig _ (by rw [List.getD_eq_getElem?_getD, List.getElem?_eq_getElem hj]; exact List.getElem_mem _)
  exact hx_dg _ hc.1 hc.2
theorem LiesAt.part {c : ByteArray} {a : Nat} {o : UInt8} {d : List Int} {x : Ct} (h : LiesAt c a (.n1 o d x)) : LiesAt c (a + 1 + d.length) x := by
  obtain ⟨r, h⟩ := h
  refine ⟨r, ?_⟩
  rw [show a + 1 + d.length = a + (1 + d.length) by omega, ← List.drop_drop, h]
  have e : (Ct.n1 o d x).bytes ++ r = (o :: d.map dg) ++ (x.bytes ++ r) := by simp [Ct.bytes]
  rw [e, List.drop_left' (by simp; omega)]
theorem LiesAt.part1 {c : ByteArray} {a : Nat} {o : UInt8} {d : List Int} {x y : Ct} (h : LiesAt c a (.n2 o d x y)) : LiesAt c (a + 1 + d.length) x := by
  obtain ⟨r, h⟩ := h
  refine ⟨y.bytes ++ r, ?_⟩
  rw [show a + 1 + d.length = a + (1 + d.length) by omega, ← List.drop_drop, h]
  have e : (Ct.n2 o d x y).bytes ++ r = (o :: d.map dg) ++ (x.bytes ++ (y.bytes ++ r)) := by simp [Ct.bytes]
  rw [e, List.drop_left' (by simp; omega)]
theorem LiesAt.part2 {c : ByteArray} {a : Nat} {o : UInt8} {d : List Int} {x y : Ct} (h : LiesAt c a (.n2 o d x y)) : LiesAt c (a + 1 + d.length + x.len) y := by
  obtain ⟨r, h⟩ := h
  refine ⟨r, ?_⟩
  rw [show a + 1 + d.length + x.len = a + (1 + d.length + x.len) by omega, ← List.drop_drop, h]
  have e : (Ct.n2 o d x y).bytes ++ r = (o :: (d.map dg ++ x.bytes)) ++ (y.bytes ++ r) := by simp [Ct.bytes]
  rw [e, List.drop_left' (by simp [Ct.len]; omega)]
/-- the bytes of a text from a place on, read as a letter and digits -/
theorem drop_bt (c : ByteArray) (a : Nat) (h : a < c.size) : c.data.toList.drop a = bt c a :: c.data.toList.drop (a + 1) := by
  have h' : a < c.data.toList.length := by rw [size_l]; exact h
  rw [List.drop_eq_getElem_cons h']
  congr 1
  simp [bt, List.getD_eq_getElem?_getD, List.getElem?_eq_getElem h']
theorem drop_digits (c : ByteArray) (a n : Nat) (h : a + n ≤ c.size) (hd : ∀ j, j < n → 0 ≤ hx (bt c (a + j))) :
    c.data.toList.drop a = ((List.range n).map fun j => hx (bt c (a + j))).map dg ++ c.data.toList.drop (a + n) := by
  induction n with
  | zero => simp
  | succ n ih =>
    rw [ih (by omega) (fun j hj => hd j (by omega)), List.range_succ, List.map_append, List.map_append, List.append_assoc]
    congr 1
    rw [drop_bt c (a + n) (by omega)]
    simp [dg_hx (hd n (by omega)), Nat.add_assoc]
def digsAt (c : ByteArray) (a n : Nat) : List Int := (List.range n).map fun j => hx (bt c (a + j))
theorem digsAt_len (c : ByteArray) (a n : Nat) : (digsAt c a n).length = n := by simp [digsAt]
theorem digsAt_c {c : ByteArray} {a n : Nat} (hd : ∀ j, j < n → 0 ≤ hx (bt c (a + j))) : ∀ k ∈ digsAt c a n, C k := by
  intro k hk
  simp only [digsAt, List.mem_map, List.mem_range] at hk
  obtain ⟨j, hj, rfl⟩ := hk
  exact ⟨hd j hj, (hx_range _).2⟩
theorem lies_n0 {c : ByteArray} {a n : Nat} (h : a + 1 + n ≤ c.size) (hd : ∀ j, j < n → 0 ≤ hx (bt c (a + 1 + j))) : LiesAt c a (.n0 (bt c a) (digsAt c (a + 1) n)) :=
  ⟨_, by rw [drop_bt c a (by omega), drop_digits c (a + 1) n h hd]; rfl⟩
theorem lies_n1 {c : ByteArray} {a n : Nat} {x : Ct} (h : a + 1 + n ≤ c.size) (hd : ∀ j, j < n → 0 ≤ hx (bt c (a + 1 + j))) (hx' : LiesAt c (a + 1 + n) x) : LiesAt c a (.n1 (bt c a) (digsAt c (a + 1) n) x) := by
  obtain ⟨r, e⟩ := hx'
  exact ⟨r, by rw [drop_bt c a (by omega), drop_digits c (a + 1) n h hd, e]; simp [Ct.bytes, digsAt]⟩
theorem lies_n2 {c : ByteArray} {a n : Nat} {x y : Ct} (h : a + 1 + n ≤ c.size) (hd : ∀ j, j < n → 0 ≤ hx (bt c (a + 1 + j))) (hx' : LiesAt c (a + 1 + n) x) (hy : LiesAt c (a + 1 + n + x.len) y) : LiesAt c a (.n2 (bt c a) (digsAt c (a + 1) n) x y) := by
  obtain ⟨r, e⟩ := hx'
  obtain ⟨s, e2⟩ := hy
  have e3 : List.drop x.len (x.bytes ++ r) = r := List.drop_left' rfl
  rw [← List.drop_drop, e, e3] at e2
  subst e2
  exact ⟨s, by rw [drop_bt c a (by omega), drop_digits c (a + 1) n h hd, e]; simp [Ct.bytes, digsAt]⟩
theorem lies_text (t : Ct) : LiesAt t.text 0 t := ⟨[], by simp [Ct.text]⟩
theorem lies_whole {c : ByteArray} {t : Ct} (h : LiesAt c 0 t) (hs : t.len = c.size) : c = t.text := by
  obtain ⟨r, h⟩ := h
  have hl := congrArg List.length h
  simp [Ct.len] at hl hs
  have e := size_l c
  have hr : r = [] := by apply List.eq_nil_of_length_eq_zero; simp at e; omega
  subst hr
  apply ByteArray.ext; apply Array.ext'
  simpa [Ct.text] using h
theorem extract_lies {c : ByteArray} {a : Nat} {t : Ct} (h : LiesAt c a t) : c.extract a (a + t.len) = t.text := by
  obtain ⟨r, h⟩ := h
  apply ByteArray.ext; apply Array.ext'
  simp only [ByteArray.data_extract, Array.toList_extract, List.extract_eq_take_drop, Ct.text]
  rw [h, show a + t.len - a = t.len by omega]
  exact List.take_left' rfl
/-- is a text a contract? -/
def okCt (c : ByteArray) : Prop := ∃ t : Ct, t.WF ∧ c = t.text ∧ c.size ≤ 200

/-! ### letters -/
theorem shp0 {b : UInt8} {n : Nat} (h : shp b = some (0, n)) : ((b = 115 ∨ b = 97 ∨ b = 109) ∧ n = 0) ∨ ((b = 33 ∨ b = 63) ∧ n = 1) ∨ ((b = 65 ∨ b = 68) ∧ n = 4) := by
  unfold shp at h
  repeat' split at h
  all_goals simp at h
  · exact .inl ⟨by assumption, h.symm⟩
  · exact .inr (.inl ⟨by assumption, h.symm⟩)
  · exact .inr (.inr ⟨by assumption, h.symm⟩)
theorem shp1 {b : UInt8} {n : Nat} (h : shp b = some (1, n)) : (b = 119 ∧ n = 1) ∨ ((b = 42 ∨ b = 43) ∧ n = 0) := by
  unfold shp at h
  repeat' split at h
  all_goals simp at h
  · exact .inl ⟨by assumption, h.symm⟩
  · exact .inr ⟨by assumption, h.symm⟩
theorem shp2 {b : UInt8} {n : Nat} (h : shp b = some (2, n)) : ((b = 59 ∨ b = 38 ∨ b = 124) ∧ n = 0) ∨ (b = 105 ∧ n = 1) := by
  unfold shp at h
  repeat' split at h
  all_goals simp at h
  · exact .inl ⟨by assumption, h.symm⟩
  · exact .inr ⟨by assumption, h.symm⟩
theorem shp_le {b : UInt8} {k n : Nat} (h : shp b = some (k, n)) : k ≤ 2 ∧ n ≤ 4 := by
  unfold shp at h
  repeat' split at h
  all_goals simp at h
  all_goals omega
end Go.Proofs.Ytihmdfhgkfgmnaa
