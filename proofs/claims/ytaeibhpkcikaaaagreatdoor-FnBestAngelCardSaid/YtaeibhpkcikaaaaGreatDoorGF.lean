/- Contracts as trees, their texts, where they lie in a text, and their transformers. No program in sight. -/
import Derived.Test.YtaeibhpkcikaaaaGreatDoorGE
import Derived.Test.YtaeibhpkcikaaaaGreatDoorGB
/- Ct -/
namespace Go.Proofs.YtaeibhpkcikaaaaGreatDoor
set_option linter.unusedVariables false
set_option linter.unusedSimpArgs false
open Go.RowKit

theorem size_l (c : ByteArray) : c.data.toList.length = c.size := rfl
/-- a contract: a letter, digits, and at most two parts -/
inductive Ct where
  | n0 (op : UInt8) (ds : List Int)
  | n1 (op : UInt8) (ds : List Int) (x : Ct)
  | n2 (op : UInt8) (ds : List Int) (x y : Ct)
/-- how many parts and how many digits a letter has -/
def shp (b : UInt8) : Option (Nat × Nat) :=
  if b = 115 ∨ b = 97 ∨ b = 109 then some (0, 0) else if b = 33 ∨ b = 63 then some (0, 1) else if b = 65 ∨ b = 68 then some (0, 4)
  else if b = 59 ∨ b = 38 ∨ b = 124 then some (2, 0) else if b = 105 then some (2, 1) else if b = 119 then some (1, 1) else if b = 42 ∨ b = 43 then some (1, 0) else none
namespace Ct
def op : Ct → UInt8
  | n0 o _ => o
  | n1 o _ _ => o
  | n2 o _ _ _ => o
def ds : Ct → List Int
  | n0 _ d => d
  | n1 _ d _ => d
  | n2 _ d _ _ => d
def nparts : Ct → Nat
  | n0 _ _ => 0
  | n1 _ _ _ => 1
  | n2 _ _ _ _ => 2
/-- each statement has its digits and parts -/
def WF : Ct → Prop
  | n0 o d => shp o = some (0, d.length) ∧ ∀ k ∈ d, C k
  | n1 o d x => (shp o = some (1, d.length) ∧ ∀ k ∈ d, C k) ∧ x.WF
  | n2 o d x y => (shp o = some (2, d.length) ∧ ∀ k ∈ d, C k) ∧ x.WF ∧ y.WF
def bytes : Ct → List UInt8
  | n0 o d => o :: d.map dg
  | n1 o d x => o :: (d.map dg ++ x.bytes)
  | n2 o d x y => o :: (d.map dg ++ (x.bytes ++ y.bytes))
def len (t : Ct) : Nat := t.bytes.length
def text (t : Ct) : ByteArray := ⟨t.bytes.toArray⟩
theorem len_pos (t : Ct) : 1 ≤ t.len := by cases t <;> simp [len, bytes]
theorem len0 (o : UInt8) (d : List Int) : (n0 o d).len = 1 + d.length := by simp [len, bytes]; omega
theorem len1 (o : UInt8) (d : List Int) (x : Ct) : (n1 o d x).len = 1 + d.length + x.len := by simp [len, bytes]; omega
theorem len2 (o : UInt8) (d : List Int) (x y : Ct) : (n2 o d x y).len = 1 + d.length + (x.len + y.len) := by simp [len, bytes]; omega
theorem text_size (t : Ct) : t.text.size = t.len := rfl
theorem WF.shape {t : Ct} (h : t.WF) : shp t.op = some (t.nparts, t.ds.length) := by
  cases t <;> simp only [WF] at h
  · exact h.1
  · exact h.1.1
  · exact h.1.1
theorem WF.dig {t : Ct} (h : t.WF) : ∀ k ∈ t.ds, C k := by
  cases t <;> simp only [WF] at h
  · exact h.2
  · exact h.1.2
  · exact h.1.2
end Ct
theorem dg_inj {a b : Int} (ha : C a) (hb : C b) (h : dg a = dg b) : a = b := by
  have := congrArg hx h
  rwa [hx_dg a ha.1 ha.2, hx_dg b hb.1 hb.2] at this
theorem map_dg_inj {l m : List Int} (hl : ∀ k ∈ l, C k) (hm : ∀ k ∈ m, C k) (h : l.map dg = m.map dg) : l = m := by
  induction l generalizing m with
  | nil => cases m with
    | nil => rfl
    | cons b m => simp at h
  | cons a l ih => cases m with
    | nil => simp at h
    | cons b m =>
      simp only [List.map_cons, List.cons.injEq] at h
      rw [dg_inj (hl a (by simp)) (hm b (by simp)) h.1, ih (fun k hk => hl k (by simp [hk])) (fun k hk => hm k (by simp [hk])) h.2]
theorem app_inj {l m : List Int} {r s : List UInt8} (hlen : l.length = m.length) (hl : ∀ k ∈ l, C k) (hm : ∀ k ∈ m, C k) (h : l.map dg ++ r = m.map dg ++ s) : l = m ∧ r = s := by
  have := List.append_inj h (by simp [hlen])
  exact ⟨map_dg_inj hl hm this.1, this.2⟩
/-- no contract's text begins another's -/
theorem Ct.uniq : ∀ (t u : Ct) (r s : List UInt8), t.WF → u.WF → t.bytes ++ r = u.bytes ++ s → t = u ∧ r = s
  | .n0 o d, .n0 o' d', r, s, h, k, e => by
    simp only [bytes, List.cons_append, List.cons.injEq] at e
    obtain ⟨rfl, e⟩ := e
    have hl : d.length = d'.length := by have := h.1.symm.trans k.1; simpa using this
    obtain ⟨rfl, e2⟩ := app_inj hl h.2 k.2 e
    exact ⟨rfl, e2⟩
  | .n1 o d x, .n1 o' d' x', r, s, h, k, e => by
    simp only [bytes, List.cons_append, List.cons.injEq, List.append_assoc] at e
    obtain ⟨rfl, e⟩ := e
    have hl : d.length = d'.length := by have := h.1.1.symm.trans k.1.1; simpa using this
    obtain ⟨rfl, e2⟩ := app_inj hl h.1.2 k.1.2 e
    obtain ⟨rfl, e3⟩ := Ct.uniq x x' r s h.2 k.2 e2
    exact ⟨rfl, e3⟩
  | .n2 o d x y, .n2 o' d' x' y', r, s, h, k, e => by
    simp only [bytes, List.cons_append, List.cons.injEq, List.append_assoc] at e
    obtain ⟨rfl, e⟩ := e
    have hl : d.length = d'.length := by have := h.1.1.symm.trans k.1.1; simpa using this
    obtain ⟨rfl, e2⟩ := app_inj hl h.1.2 k.1.2 e
    obtain ⟨rfl, e3⟩ := Ct.uniq x x' _ _ h.2.1 k.2.1 e2
    obtain ⟨rfl, e4⟩ := Ct.uniq y y' r s h.2.2 k.2.2 e3
    exact ⟨rfl, e4⟩
  | .n0 o d, .n1 o' d' x', r, s, h, k, e => by
    simp only [bytes, List.cons_append, List.cons.injEq] at e
    obtain ⟨rfl, e⟩ := e
    have := h.1.symm.trans k.1.1; simp at this
  | .n0 o d, .n2 o' d' x' y', r, s, h, k, e => by
    simp only [bytes, List.cons_append, List.cons.injEq] at e
    obtain ⟨rfl, e⟩ := e
    have := h.1.symm.trans k.1.1; simp at this
  | .n1 o d x, .n0 o' d', r, s, h, k, e => by
    simp only [bytes, List.cons_append, List.cons.injEq] at e
    obtain ⟨rfl, e⟩ := e
    have := h.1.1.symm.trans k.1; simp at this
  | .n1 o d x, .n2 o' d' x' y', r, s, h, k, e => by
    simp only [bytes, List.cons_append, List.cons.injEq] at e
    obtain ⟨rfl, e⟩ := e
    have := h.1.1.symm.trans k.1.1; simp at this
  | .n2 o d x y, .n0 o' d', r, s, h, k, e => by
    simp only [bytes, List.cons_append, List.cons.injEq] at e
    obtain ⟨rfl, e⟩ := e
    have := h.1.1.symm.trans k.1; simp at this
  | .n2 o d x y, .n1 o' d' x', r, s, h, k, e => by
    simp only [bytes, List.cons_append, List.cons.injEq] at e
    obtain ⟨rfl, e⟩ := e
    have := h.1.1.symm.trans k.1.1; simp at this

/-! ### where a contract lies in a text -/
/-- the text of t lies in c from a place on -/
def LiesAt (c : ByteArray) (a : Nat) (t : Ct) : Prop := ∃ r, c.data.toList.drop a = t.bytes ++ r
theorem LiesAt.size {c : ByteArray} {a : Nat} {t : Ct} (h : LiesAt c a t) : a + t.len ≤ c.size := by
  obtain ⟨r, h⟩ := h
  have := congrArg List.length h
  simp only [List.length_drop, List.length_append] at this
  have h1 := t.len_pos
  have e := size_l c
  unfold Ct.len at *
  omega
theorem LiesAt.uniq {c : ByteArray} {a : Nat} {t u : Ct} (h : LiesAt c a t) (k : LiesAt c a u) (ht : t.WF) (hu : u.WF) : t = u := by
  obtain ⟨r, h⟩ := h; obtain ⟨s, k⟩ := k
  exact (Ct.uniq t u r s ht hu (h.symm.trans k)).1
theorem bt_drop (c : ByteArray) (a j : Nat) : bt c (a + j) = (c.data.toList.drop a).getD j 0 := by
  simp [bt, List.getD_eq_getElem?_getD, List.getElem?_drop]
theorem LiesAt.at {c : ByteArray} {a : Nat} {t : Ct} (h : LiesAt c a t) (j : Nat) (hj : j < t.len) : bt c (a + j) = t.bytes.getD j 0 := by
  obtain ⟨r, h⟩ := h
  rw [bt_drop, h]
  simp only [List.getD_eq_getElem?_getD]
  rw [List.getElem?_append_left hj]
theorem Ct.bytes_head (t : Ct) : ∃ r, t.bytes = t.op :: (t.ds.map dg ++ r) := by
  cases t
  · exact ⟨[], by simp [bytes, op, ds]⟩
  · exact ⟨_, rfl⟩
  · exact ⟨_, rfl⟩
theorem LiesAt.op {c : ByteArray} {a : Nat} {t : Ct} (h : LiesAt c a t) : bt c a = t.op := by
  have := h.at 0 t.len_pos
  obtain ⟨r, e⟩ := t.bytes_head
  rw [e] at this
  simpa using this
theorem Ct.len_head (t : Ct) : 1 + t.ds.length ≤ t.len := by
  obtain ⟨r, e⟩ := t.bytes_head
  unfold len; rw [e]; simp; omega
theorem LiesAt.dig {c : ByteArray} {a : Nat} {t : Ct} (h : LiesAt c a t) (j : Nat) (hj : j < t.ds.length) : bt c (a + 1 + j) = dg (t.ds.getD j 0) := by
  have h1 := h.at (1 + j) (by have := t.len_head; omega)
  obtain ⟨r, e⟩ := t.bytes_head
  rw [e, show a + (1 + j) = a + 1 + j by omega, show 1 + j = j + 1 by omega] at h1
  rw [h1]
  simp only [List.getD_eq_getElem?_getD, List.getElem?_cons_succ]
  rw [List.getElem?_append_left (by simpa using hj)]
  simp [hj]
theorem LiesAt.hx {c : ByteArray} {a : Nat} {t : Ct} (h : LiesAt c a t) (ht : t.WF) (j : Nat) (hj : j < t.ds.length) : hx (bt c (a + 1 + j)) = t.ds.getD j 0 := by
  rw [h.dig j hj]
  have hc : C (t.ds.getD j 0) := ht.dig _ (by rw [List.getD_eq_getElem?_getD, List.getElem?_eq_getElem hj]; exact List.getElem_mem _)
  exact hx_dg _ hc.1 hc.2
theorem LiesAt.part {c : ByteArray} {a : Nat} {o : UInt8} {d : List Int} {x : Ct} (h : LiesAt c a (.n1 o d x)) : LiesAt c (a + 1 + d.length) x := by
  obtain ⟨r, h⟩ := h
  refine ⟨r, ?_⟩
  rw [show a + 1 + d.length = a + (1 + d.length) by omega, ← List.drop_drop, h]
  have e : (Ct.n1 o d x).bytes ++ r = (o :: d.map dg) ++ (x.bytes ++ r) := by simp [Ct.bytes]
  rw [e, List.drop_left' (by simp; omega)]
theorem LiesAt.part1 {c : ByteArray} {a : Nat} {o : UInt8} {d : List Int} {x y : Ct} (h : LiesAt c a (.n2 o d x y)) : LiesAt c (a + 1 + d.length) x := by
  obtain ⟨r, h⟩ := h
  refine ⟨y.bytes ++ r, ?_⟩
  rw [show a + 1 + d.length = a + (1 + d.length) by omega, ← List.drop_drop, h]
  have e : (Ct.n2 o d x y).bytes ++ r = (o :: d.map dg) ++ (x.bytes ++ (y.bytes ++ r)) := by simp [Ct.bytes]
  rw [e, List.drop_left' (by simp; omega)]
theorem LiesAt.part2 {c : ByteArray} {a : Nat} {o : UInt8} {d : List Int} {x y : Ct} (h : LiesAt c a (.n2 o d x y)) : LiesAt c (a + 1 + d.length + x.len) y := by
  obtain ⟨r, h⟩ := h
  refine ⟨r, ?_⟩
  rw [show a + 1 + d.length + x.len = a + (1 + d.length + x.len) by omega, ← List.drop_drop, h]
  have e : (Ct.n2 o d x y).bytes ++ r = (o :: (d.map dg ++ x.bytes)) ++ (y.bytes ++ r) := by simp [Ct.bytes]
  rw [e, List.drop_left' (by simp [Ct.len]; omega)]
/-- the bytes of a text from a place on, read as a letter and digits -/
theorem drop_bt (c : ByteArray) (a : Nat) (h : a < c.size) : c.data.toList.drop a = bt c a :: c.data.toList.drop (a + 1) := by
  have h' : a < c.data.toList.length := by rw [size_l]; exact h
  rw [List.drop_eq_getElem_cons h']
  congr 1
  simp [bt, List.getD_eq_getElem?_getD, List.getElem?_eq_getElem h']
theorem drop_digits (c : ByteArray) (a n : Nat) (h : a + n ≤ c.size) (hd : ∀ j, j < n → 0 ≤ hx (bt c (a + j))) :
    c.data.toList.drop a = ((List.range n).map fun j => hx (bt c (a + j))).map dg ++ c.data.toList.drop (a + n) := by
  induction n with
  | zero => simp
  | succ n ih =>
    rw [ih (by omega) (fun j hj => hd j (by omega)), List.range_succ, List.map_append, List.map_append, List.append_assoc]
    congr 1
    rw [drop_bt c (a + n) (by omega)]
    simp [dg_hx (hd n (by omega)), Nat.add_assoc]
def digsAt (c : ByteArray) (a n : Nat) : List Int := (List.range n).map fun j => hx (bt c (a + j))
theorem digsAt_len (c : ByteArray) (a n : Nat) : (digsAt c a n).length = n := by simp [digsAt]
theorem digsAt_c {c : ByteArray} {a n : Nat} (hd : ∀ j, j < n → 0 ≤ hx (bt c (a + j))) : ∀ k ∈ digsAt c a n, C k := by
  intro k hk
  simp only [digsAt, List.mem_map, List.mem_range] at hk
  obtain ⟨j, hj, rfl⟩ := hk
  exact ⟨hd j hj, (hx_range _).2⟩
theorem lies_n0 {c : ByteArray} {a n : Nat} (h : a + 1 + n ≤ c.size) (hd : ∀ j, j < n → 0 ≤ hx (bt c (a + 1 + j))) : LiesAt c a (.n0 (bt c a) (digsAt c (a + 1) n)) :=
  ⟨_, by rw [drop_bt c a (by omega), drop_digits c (a + 1) n h hd]; rfl⟩
theorem lies_n1 {c : ByteArray} {a n : Nat} {x : Ct} (h : a + 1 + n ≤ c.size) (hd : ∀ j, j < n → 0 ≤ hx (bt c (a + 1 + j))) (hx' : LiesAt c (a + 1 + n) x) : LiesAt c a (.n1 (bt c a) (digsAt c (a + 1) n) x) := by
  obtain ⟨r, e⟩ := hx'
  exact ⟨r, by rw [drop_bt c a (by omega), drop_digits c (a + 1) n h hd, e]; simp [Ct.bytes, digsAt]⟩
theorem lies_n2 {c : ByteArray} {a n : Nat} {x y : Ct} (h : a + 1 + n ≤ c.size) (hd : ∀ j, j < n → 0 ≤ hx (bt c (a + 1 + j))) (hx' : LiesAt c (a + 1 + n) x) (hy : LiesAt c (a + 1 + n + x.len) y) : LiesAt c a (.n2 (bt c a) (digsAt c (a + 1) n) x y) := by
  obtain ⟨r, e⟩ := hx'
  obtain ⟨s, e2⟩ := hy
  have e3 : List.drop x.len (x.bytes ++ r) = r := List.drop_left' rfl
  rw [← List.drop_drop, e, e3] at e2
  subst e2
  exact ⟨s, by rw [drop_bt c a (by omega), drop_digits c (a + 1) n h hd, e]; simp [Ct.bytes, digsAt]⟩
theorem lies_text (t : Ct) : LiesAt t.text 0 t := ⟨[], by simp [Ct.text]⟩
theorem lies_whole {c : ByteArray} {t : Ct} (h : LiesAt c 0 t) (hs : t.len = c.size) : c = t.text := by
  obtain ⟨r, h⟩ := h
  have hl := congrArg List.length h
  simp [Ct.len] at hl hs
  have e := size_l c
  have hr : r = [] := by apply List.eq_nil_of_length_eq_zero; simp at e; omega
  subst hr
  apply ByteArray.ext; apply Array.ext'
  simpa [Ct.text] using h
theorem extract_lies {c : ByteArray} {a : Nat} {t : Ct} (h : LiesAt c a t) : c.extract a (a + t.len) = t.text := by
  obtain ⟨r, h⟩ := h
  apply ByteArray.ext; apply Array.ext'
  simp only [ByteArray.data_extract, Array.toList_extract, List.extract_eq_take_drop, Ct.text]
  rw [h, show a + t.len - a = t.len by omega]
  exact List.take_left' rfl
/-- is a text a contract? -/
def okCt (c : ByteArray) : Prop := ∃ t : Ct, t.WF ∧ c = t.text ∧ c.size ≤ 200

/-! ### letters -/
theorem shp0 {b : UInt8} {n : Nat} (h : shp b = some (0, n)) : ((b = 115 ∨ b = 97 ∨ b = 109) ∧ n = 0) ∨ ((b = 33 ∨ b = 63) ∧ n = 1) ∨ ((b = 65 ∨ b = 68) ∧ n = 4) := by
  unfold shp at h
  repeat' split at h
  all_goals simp at h
  · exact .inl ⟨by assumption, h.symm⟩
  · exact .inr (.inl ⟨by assumption, h.symm⟩)
  · exact .inr (.inr ⟨by assumption, h.symm⟩)
theorem shp1 {b : UInt8} {n : Nat} (h : shp b = some (1, n)) : (b = 119 ∧ n = 1) ∨ ((b = 42 ∨ b = 43) ∧ n = 0) := by
  unfold shp at h
  repeat' split at h
  all_goals simp at h
  · exact .inl ⟨by assumption, h.symm⟩
  · exact .inr ⟨by assumption, h.symm⟩
theorem shp2 {b : UInt8} {n : Nat} (h : shp b = some (2, n)) : ((b = 59 ∨ b = 38 ∨ b = 124) ∧ n = 0) ∨ (b = 105 ∧ n = 1) := by
  unfold shp at h
  repeat' split at h
  all_goals simp at h
  · exact .inl ⟨by assumption, h.symm⟩
  · exact .inr ⟨by assumption, h.symm⟩
theorem shp_le {b : UInt8} {k n : Nat} (h : shp b = some (k, n)) : k ≤ 2 ∧ n ≤ 4 := by
  unfold shp at h
  repeat' split at h
  all_goals simp at h
  all_goals omega
end Go.Proofs.YtaeibhpkcikaaaaGreatDoor

/- Ct2 -/
namespace Go.Proofs.YtaeibhpkcikaaaaGreatDoor
set_option linter.unusedVariables false
set_option linter.unusedSimpArgs false
open Go.RowKit

/-- assuming p -/
def assuT (p : Int) (k : Nat) : Int := if k < 16 then bits .or .i64 (k : Int) (notp p) else 0
theorem assuT_at {p : Int} {k : Nat} (h : k < 16) : assuT p k = bits .or .i64 (k : Int) (notp p) := by simp [assuT, h]
theorem assuT_ok {p : Int} (hp : C p) : Cond (assuT p) := fun k => by
  unfold assuT; split
  · exact C.or (c_nat (by assumption)) (notp_ok hp)
  · exact C.zero
theorem Mon.assu {p : Int} (hp : C p) : Mon (assuT p) := Mon.of (assuT_ok hp) fun a b ha hb s => by
  rw [assuT_at ha, assuT_at hb]; exact or_mono (c_nat ha) (notp_ok hp) (c_nat hb) (notp_ok hp) s (Sub.refl _)
/-- t where p holds, u elsewhere -/
def iteT (p : Int) (t u : Nat → Int) (k : Nat) : Int := bits .or .i64 (bits .and .i64 p (t k)) (bits .andNot .i64 (u k) p)
theorem sub_difl {a b p : Int} (ha : C a) (hb : C b) (hp : C p) (s : Sub a b) : Sub (bits .andNot .i64 a p) (bits .andNot .i64 b p) := fun i hi h => by
  rw [has_dif ha.fit16 hp.fit16, Bool.and_eq_true] at h
  rw [has_dif hb.fit16 hp.fit16, s i hi h.1, h.2]; rfl
theorem iteT_ok {p : Int} {t u : Nat → Int} (hp : C p) (ht : Cond t) (hu : Cond u) : Cond (iteT p t u) := fun k => C.or (C.and hp (ht k)) (C.dif (hu k) hp)
theorem Mon.ite {p : Int} {t u : Nat → Int} (hp : C p) (ht : Mon t) (hu : Mon u) : Mon (iteT p t u) := Mon.of (iteT_ok hp ht.ok hu.ok) fun a b ha hb s =>
  or_mono (C.and hp (ht.ok a)) (C.dif (hu.ok a) hp) (C.and hp (ht.ok b)) (C.dif (hu.ok b) hp) (and_mono hp (ht.ok a) hp (ht.ok b) (Sub.refl _) (ht.sub ha hb s)) (sub_difl (hu.ok a) (hu.ok b) hp (hu.sub ha hb s))
/-- what must hold ahead of a turn of a loop -/
def whlF (p : Int) (t : Nat → Int) (q : Int) (y : Int) : Int := bits .or .i64 (bits .and .i64 p (t y.toNat)) (bits .andNot .i64 q p)
theorem MonF.whl {p : Int} (hp : C p) {t : Nat → Int} (ht : Mon t) {q : Int} (hq : C q) : MonF (whlF p t q) :=
  ⟨fun _ _ => C.or (C.and hp (ht.ok _)) (C.dif hq hp), fun _ _ hx hy s => or_mono (C.and hp (ht.ok _)) (C.dif hq hp) (C.and hp (ht.ok _)) (C.dif hq hp) (and_mono hp (ht.ok _) hp (ht.ok _) (Sub.refl _) (ht.at hx hy s)) (Sub.refl _)⟩
def whlT (p : Int) (t : Nat → Int) (q : Nat) : Int := if q < 16 then lfp (whlF p t q) else 0
theorem whlT_at {p : Int} {t : Nat → Int} {q : Nat} (h : q < 16) : whlT p t q = lfp (whlF p t q) := by simp [whlT, h]
theorem whlT_ok {p : Int} (hp : C p) {t : Nat → Int} (ht : Mon t) : Cond (whlT p t) := fun k => by
  unfold whlT; split
  · exact lfp_ok (MonF.whl hp ht (c_nat (by assumption)))
  · exact C.zero
theorem Mon.whl {p : Int} (hp : C p) {t : Nat → Int} (ht : Mon t) : Mon (whlT p t) := Mon.of (whlT_ok hp ht) fun a b ha hb s => by
  rw [whlT_at ha, whlT_at hb]
  have hB := MonF.whl hp ht (c_nat hb)
  refine lfp_least (MonF.whl hp ht (c_nat ha)) (lfp_ok hB) ?_
  have hc := C.and hp (ht.ok (lfp (whlF p t b)).toNat)
  have := or_mono hc (C.dif (c_nat ha) hp) hc (C.dif (c_nat hb) hp) (Sub.refl _) (sub_difl (c_nat ha) (c_nat hb) hp s)
  exact this.trans (by have := lfp_fix hB; unfold whlF at this ⊢; rw [this]; exact Sub.refl _)
/-- digits as a table -/
def dsF (d : List Int) (k : Nat) : Int := d.getD k 0
theorem dsF_c {d : List Int} (h : ∀ k ∈ d, C k) : Cond (dsF d) := fun k => by
  unfold dsF
  rw [List.getD_eq_getElem?_getD]
  cases hk : d[k]? with
  | none => exact C.zero
  | some v => exact h v (List.mem_of_getElem? hk)
/-- the transformer of a contract -/
def Ct.sem : Ct → Nat → Int
  | n0 o d => if o = 115 then skipT else if o = 97 then assT 0 else if o = 109 then assuT 0 else if o = 33 then assT (dsF d 0) else if o = 63 then assuT (dsF d 0) else if o = 65 then angelT (dsF d) else demonT (dsF d)
  | n1 o d x => if o = 119 then whlT (dsF d 0) x.sem else if o = 42 then omegaT x.sem else starT x.sem
  | n2 o d x y => if o = 59 then thenT x.sem y.sem else if o = 38 then meetT x.sem y.sem else if o = 124 then joinT x.sem y.sem else iteT (dsF d 0) x.sem y.sem
theorem Ct.mon : ∀ t : Ct, t.WF → Mon t.sem
  | n0 o d, h => by
    have hd := dsF_c h.2
    simp only [sem]
    repeat' split
    · exact Mon.skip
    · exact Mon.ass C.zero
    · exact Mon.assu C.zero
    · exact Mon.ass (hd 0)
    · exact Mon.assu (hd 0)
    · exact Mon.angel hd
    · exact Mon.demon hd
  | n1 o d x, h => by
    have hd := dsF_c h.1.2
    have hx := Ct.mon x h.2
    simp only [sem]
    repeat' split
    · exact Mon.whl (hd 0) hx
    · exact hx.omega
    · exact hx.star
  | n2 o d x y, h => by
    have hd := dsF_c h.1.2
    have hx := Ct.mon x h.2.1
    have hy := Ct.mon y h.2.2
    simp only [sem]
    repeat' split
    · exact hx.then hy
    · exact hx.meet hy
    · exact hx.join hy
    · exact Mon.ite (hd 0) hx hy
end Go.Proofs.YtaeibhpkcikaaaaGreatDoor

/- Pl -/
namespace Go.Proofs.YtaeibhpkcikaaaaGreatDoor
set_option linter.unusedVariables false
set_option linter.unusedSimpArgs false
open Go.RowKit

/-- what a statement does: it goes on with others, somebody breaks the contract (true: the angel), or somebody must choose -/
inductive Nx where
  | go (l : List Ct)
  | stop (angel : Bool)
  | pick
def Ct.next (s : Nat) : Ct → Nx
  | n0 o d => if o = 115 then .go [] else if o = 97 then .stop true else if o = 109 then .stop false else if o = 33 then (if has (dsF d 0) s then .go [] else .stop true) else if o = 63 then (if has (dsF d 0) s then .go [] else .stop false) else .pick
  | n1 o d x => if o = 119 then (if has (dsF d 0) s then .go [x, n1 o d x] else .go []) else .pick
  | n2 o d x y => if o = 59 then .go [x, y] else if o = 105 then (if has (dsF d 0) s then .go [x] else .go [y]) else .pick
/-- is it the angel who chooses? -/
def Ct.who (t : Ct) : Bool := t.op == 124 || t.op == 65 || t.op == 43
def Ct.opts (s : Nat) : Ct → List Nat
  | n0 _ d => (List.range 4).filter fun u => has (dsF d s) u
  | n1 _ _ _ => [0, 1]
  | n2 _ _ _ _ => [0, 1]
/-- the state and what is to be executed first behind a choice -/
def Ct.chose (s k : Nat) : Ct → Nat × List Ct
  | n0 _ _ => (k, [])
  | n1 o d x => (s, if k = 0 then [] else [x, n1 o d x])
  | n2 _ _ x y => (s, [if k = 0 then x else y])
inductive Fin where
  | done
  | long
  | broke (angel : Bool)
  | pick
/-- moves up to a choice or an end, at most so many -/
def run : Nat → Nat → List Ct → Nat × List Ct × Fin
  | n, _, [] => (n, [], .done)
  | 0, _, t :: ts => (0, t :: ts, .long)
  | n + 1, s, t :: ts => match t.next s with
    | .go l => run n s (l ++ ts)
    | .stop a => (n + 1, t :: ts, .broke a)
    | .pick => if (t.opts s).isEmpty then (n + 1, t :: ts, .broke t.who) else (n + 1, t :: ts, .pick)
theorem run_nil (n s : Nat) : run n s [] = (n, [], .done) := by cases n <;> rfl
theorem run_zero (s : Nat) (t : Ct) (ts : List Ct) : run 0 s (t :: ts) = (0, t :: ts, .long) := rfl
theorem run_pick {n s : Nat} {ts : List Ct} {m : Nat} {us : List Ct} (h : run n s ts = (m, us, .pick)) : ∃ t u, us = t :: u ∧ t.next s = .pick ∧ t.opts s ≠ [] ∧ 1 ≤ m ∧ m ≤ n := by
  induction n generalizing ts with
  | zero =>
    cases ts with
    | nil => simp [run_nil] at h
    | cons t ts => simp [run_zero] at h
  | succ n ih =>
    cases ts with
    | nil => simp [run_nil] at h
    | cons t ts =>
      cases hn : t.next s with
      | go l =>
        simp only [run, hn] at h
        obtain ⟨x, u, h1, h2, h3, h4, h5⟩ := ih h
        exact ⟨x, u, h1, h2, h3, h4, by omega⟩
      | stop a => simp [run, hn] at h
      | pick =>
        simp only [run, hn] at h
        by_cases ho : (t.opts s).isEmpty = true
        · rw [if_pos ho] at h; simp at h
        · rw [if_neg ho] at h
          simp only [Prod.mk.injEq] at h
          exact ⟨t, ts, h.2.1.symm, hn, fun e => ho (by rw [e]; rfl), by omega, by omega⟩
/-- how a play stands -/
inductive Stand where
  | fin (e : Fin)
  | asks
  | bad
/-- the choice that a byte names -/
def chc (c : UInt8) : Int := (c.toNat : Int) - 48
def isOpt (l : List Nat) (c : UInt8) : Bool := l.any fun k => chc c == (k : Int)
structure Spot where
  left : Nat
  state : Nat
  todo : List Ct
  used : Nat
  how : Stand
def playA : List UInt8 → Nat → Nat → List Ct → Nat → Spot
  | [], n, s, ts, used => match run n s ts with
    | (m, us, .pick) => ⟨m, s, us, used, .asks⟩
    | (m, us, e) => ⟨m, s, us, used, .fin e⟩
  | c :: cs, n, s, ts, used => match run n s ts with
    | (m, [], e) => ⟨m, s, [], used, .fin e⟩
    | (m, t :: us, .pick) => if isOpt (t.opts s) c then playA cs (m - 1) (t.chose s (chc c).toNat).1 ((t.chose s (chc c).toNat).2 ++ us) (used + 1) else ⟨m, s, t :: us, used, .bad⟩
    | (m, t :: us, e) => ⟨m, s, t :: us, used, .fin e⟩
def Ct.play (t : Ct) (s : Nat) (picks : List UInt8) : Spot := playA picks 200 s [t] 0
end Go.Proofs.YtaeibhpkcikaaaaGreatDoor

/- Ct3 -/
namespace Go.Proofs.YtaeibhpkcikaaaaGreatDoor
set_option linter.unusedVariables false
set_option linter.unusedSimpArgs false
open Go.RowKit

def Ct.parts : Ct → List Ct
  | n0 _ _ => []
  | n1 _ _ x => [x]
  | n2 _ _ x y => [x, y]
def sumLen : List Ct → Nat
  | [] => 0
  | x :: l => x.len + sumLen l
theorem sumLen_app (l m : List Ct) : sumLen (l ++ m) = sumLen l + sumLen m := by
  induction l with
  | nil => simp [sumLen]
  | cons x l ih => simp [sumLen, ih]; omega
theorem Ct.len_parts (t : Ct) : t.len = 1 + t.ds.length + sumLen t.parts := by
  cases t
  · rw [len0]; rfl
  · rw [len1]; rfl
  · rw [len2]; rfl
theorem Ct.parts_wf {t : Ct} (h : t.WF) : ∀ x ∈ t.parts, x.WF := by
  cases t <;> simp only [parts, List.mem_cons, List.not_mem_nil, or_false]
  · intro x hx; exact hx.elim
  · rintro x rfl; exact h.2
  · rintro x (rfl | rfl)
    · exact h.2.1
    · exact h.2.2
theorem Ct.parts_le (t : Ct) : t.parts.length ≤ 2 := by cases t <;> simp [parts]
theorem Ct.parts_n (t : Ct) : t.parts.length = t.nparts := by cases t <;> rfl
theorem LiesAt.split {c : ByteArray} {a : Nat} {t x : Ct} {us vs : List Ct} (h : LiesAt c a t) (e : t.parts = us ++ x :: vs) : LiesAt c (a + 1 + t.ds.length + sumLen us) x := by
  cases t with
  | n0 o d => simp [Ct.parts] at e
  | n1 o d y =>
    cases us with
    | nil =>
      simp [Ct.parts] at e
      obtain ⟨rfl, -⟩ := e
      exact h.part
    | cons u us => simp [Ct.parts] at e
  | n2 o d y z =>
    cases us with
    | nil =>
      simp [Ct.parts] at e
      obtain ⟨rfl, -⟩ := e
      exact h.part1
    | cons u us =>
      cases us with
      | nil =>
        simp [Ct.parts] at e
        obtain ⟨rfl, rfl, -⟩ := e
        exact h.part2
      | cons u' us => simp [Ct.parts] at e
theorem Ct.len_part {t x : Ct} (h : x ∈ t.parts) : x.len < t.len := by
  rw [t.len_parts]
  have : x.len ≤ sumLen t.parts := by
    generalize t.parts = l at h
    induction l with
    | nil => simp at h
    | cons y l ih =>
      simp only [List.mem_cons] at h
      rcases h with rfl | h
      · simp [sumLen]
      · have := ih h; simp [sumLen]; omega
  omega
/-- a turn of a loop -/
def turnV (o : UInt8) (p body q : Int) : Int := if o = 119 then bits .or .i64 (bits .and .i64 p body) (bits .andNot .i64 q p) else if o = 42 then bits .and .i64 body q else bits .or .i64 body q
theorem turn_c {o : UInt8} {p b q : Int} (hp : C p) (hb : C b) (hq : C q) : C (turnV o p b q) := by
  unfold turnV
  repeat' split
  · exact C.or (C.and hp hb) (C.dif hq hp)
  · exact C.and hb hq
  · exact C.or hb hq
theorem turn_mon {o : UInt8} {p q : Int} {t : Nat → Int} (hp : C p) (ht : Mon t) (hq : C q) : MonF fun y => turnV o p (t y.toNat) q := by
  unfold turnV
  repeat' split
  · exact MonF.whl hp ht hq
  · exact MonF.omega ht hq
  · exact MonF.star ht hq
theorem sem_loop (o : UInt8) (d : List Int) (x : Ct) (q : Nat) (hq : q < 16) : (Ct.n1 o d x).sem q = lfp fun y => turnV o (dsF d 0) (x.sem y.toNat) q := by
  simp only [Ct.sem, turnV]
  repeat' split
  · rw [whlT_at hq]; rfl
  · rw [omegaT_at hq]; rfl
  · rw [starT_at hq]; rfl
end Go.Proofs.YtaeibhpkcikaaaaGreatDoor

/- Ct4 -/
namespace Go.Proofs.YtaeibhpkcikaaaaGreatDoor
set_option linter.unusedVariables false
set_option linter.unusedSimpArgs false
open Go.RowKit

/-- statements that can be made concrete -/
def concOp (o : UInt8) : Bool := o == 115 || o == 97 || o == 109 || o == 33 || o == 65 || o == 59 || o == 38 || o == 124 || o == 42 || o == 43
/-- does a relation stay within the known states? -/
def staysR (kn : Int) (q : Nat → Int) : Bool := bits .andNot .i64 (img q kn) kn == 0
def fitsD (r : Nat → Int) (o : UInt8) (d : List Int) : Bool := !(o == 65) || staysR (img r 15) (dsF d)
def concR (r : Nat → Int) (d : List Int) : Nat → Int := comp (comp r (dsF d)) (turn r)
def concD (r : Nat → Int) (o : UInt8) (d : List Int) : List Int := if o = 33 then [dia r (dsF d 0)] else if o = 65 then (List.range 4).map (concR r d) else d
namespace Ct
def conc (r : Nat → Int) : Ct → Ct
  | n0 o d => n0 o (concD r o d)
  | n1 o d x => n1 o (concD r o d) (x.conc r)
  | n2 o d x y => n2 o (concD r o d) (x.conc r) (y.conc r)
def fits (r : Nat → Int) : Ct → Bool
  | n0 o d => fitsD r o d
  | n1 o d x => fitsD r o d && x.fits r
  | n2 o d x y => fitsD r o d && (x.fits r && y.fits r)
def knows (s : UInt8 → Bool) : Ct → Bool
  | n0 o _ => s o
  | n1 o _ x => s o && x.knows s
  | n2 o _ x y => s o && (x.knows s && y.knows s)
def cnt (s : UInt8 → Bool) : Ct → Nat
  | n0 o _ => if s o then 1 else 0
  | n1 o _ x => (if s o then 1 else 0) + x.cnt s
  | n2 o _ x y => (if s o then 1 else 0) + (x.cnt s + y.cnt s)
/-- how many statements -/
def num : Ct → Nat
  | n0 _ _ => 1
  | n1 _ _ x => 1 + x.num
  | n2 _ _ x y => 1 + (x.num + y.num)
/-- the letter and digits of a statement -/
def headB (t : Ct) : List UInt8 := t.op :: t.ds.map dg
end Ct
def catB : List Ct → List UInt8
  | [] => []
  | x :: l => x.bytes ++ catB l
theorem catB_app (l m : List Ct) : catB (l ++ m) = catB l ++ catB m := by
  induction l with
  | nil => simp [catB]
  | cons x l ih => simp [catB, ih]
theorem Ct.bytes_parts (t : Ct) : t.bytes = t.headB ++ catB t.parts := by
  cases t <;> simp [bytes, headB, op, ds, parts, catB]
theorem Ct.conc_op (r : Nat → Int) (t : Ct) : (t.conc r).op = t.op := by cases t <;> rfl
theorem Ct.conc_ds (r : Nat → Int) (t : Ct) : (t.conc r).ds = concD r t.op t.ds := by cases t <;> rfl
theorem Ct.conc_parts (r : Nat → Int) (t : Ct) : (t.conc r).parts = t.parts.map (·.conc r) := by cases t <;> rfl
def sumCnt (s : UInt8 → Bool) : List Ct → Nat
  | [] => 0
  | x :: l => x.cnt s + sumCnt s l
theorem sumCnt_app (s : UInt8 → Bool) (l m : List Ct) : sumCnt s (l ++ m) = sumCnt s l + sumCnt s m := by
  induction l with
  | nil => simp [sumCnt]
  | cons x l ih => simp [sumCnt, ih]; omega
theorem Ct.cnt_parts (s : UInt8 → Bool) (t : Ct) : t.cnt s = (if s t.op then 1 else 0) + sumCnt s t.parts := by cases t <;> rfl
theorem Ct.cnt_le (s : UInt8 → Bool) : ∀ t : Ct, t.cnt s ≤ t.num
  | .n0 o d => by simp only [cnt, num]; split <;> omega
  | .n1 o d x => by have := cnt_le s x; simp only [cnt, num]; split <;> omega
  | .n2 o d x y => by have := cnt_le s x; have := cnt_le s y; simp only [cnt, num]; split <;> omega
theorem Ct.num_le : ∀ t : Ct, t.num ≤ t.len
  | .n0 o d => by have := (Ct.n0 o d).len_pos; simp only [num]; omega
  | .n1 o d x => by have := num_le x; rw [len1]; simp only [num]; omega
  | .n2 o d x y => by have := num_le x; have := num_le y; rw [len2]; simp only [num]; omega
theorem Ct.cnt_all {s : UInt8 → Bool} : ∀ t : Ct, t.cnt s = t.num ↔ t.knows s = true
  | .n0 o d => by simp only [cnt, num, knows]; cases s o <;> simp
  | .n1 o d x => by
    have h1 := cnt_le s x
    simp only [cnt, num, knows, Bool.and_eq_true]
    rw [← cnt_all x]
    cases s o
    · simp; omega
    · simp
  | .n2 o d x y => by
    have h1 := cnt_le s x
    have h2 := cnt_le s y
    simp only [cnt, num, knows, Bool.and_eq_true]
    rw [← cnt_all x, ← cnt_all y]
    cases s o
    · simp; omega
    · simp; omega
theorem Ct.knows_parts (s : UInt8 → Bool) (t : Ct) : t.knows s = (s t.op && t.parts.all (·.knows s)) := by cases t <;> simp [knows, op, parts]
theorem Ct.fits_parts (r : Nat → Int) (t : Ct) : t.fits r = (fitsD r t.op t.ds && t.parts.all (·.fits r)) := by cases t <;> simp [fits, op, ds, parts]
theorem concR_ok (r : Nat → Int) (d : List Int) : Cond (concR r d) := fun _ => img_ok (turn_ok r) _
theorem concD_len {r : Nat → Int} {o : UInt8} {d : List Int} {k : Nat} (h : shp o = some (k, d.length)) : (concD r o d).length = d.length := by
  unfold concD
  split
  · subst_vars; simp [shp] at h; simp [h.2.symm]
  · split
    · subst_vars; simp [shp] at h; simp [h.2.symm]
    · rfl
theorem concD_c {r : Nat → Int} {o : UInt8} {d : List Int} (h : ∀ k ∈ d, C k) : ∀ k ∈ concD r o d, C k := by
  unfold concD
  split
  · intro k hk; simp at hk; subst hk; exact dia_ok _ _
  · split
    · intro k hk
      simp only [List.mem_map, List.mem_range] at hk
      obtain ⟨j, hj, rfl⟩ := hk
      exact concR_ok r d j
    · exact h
theorem Ct.conc_wf (r : Nat → Int) : ∀ t : Ct, t.WF → (t.conc r).WF
  | .n0 o d, h => ⟨by rw [concD_len h.1]; exact h.1, concD_c h.2⟩
  | .n1 o d x, h => ⟨⟨by rw [concD_len h.1.1]; exact h.1.1, concD_c h.1.2⟩, conc_wf r x h.2⟩
  | .n2 o d x y, h => ⟨⟨by rw [concD_len h.1.1]; exact h.1.1, concD_c h.1.2⟩, conc_wf r x h.2.1, conc_wf r y h.2.2⟩
theorem Ct.conc_len (r : Nat → Int) : ∀ t : Ct, t.WF → (t.conc r).len = t.len
  | .n0 o d, h => by simp only [conc]; rw [len0, len0, concD_len h.1]
  | .n1 o d x, h => by simp only [conc]; rw [len1, len1, concD_len h.1.1, conc_len r x h.2]
  | .n2 o d x y, h => by simp only [conc]; rw [len2, len2, concD_len h.1.1, conc_len r x h.2.1, conc_len r y h.2.2]
/-- the known states -/
theorem img_dia {r : Nat → Int} (hr : Cond r) : dia (turn r) 15 = img r 15 := by
  refine C.ext (dia_ok _ _) (img_ok hr _) fun i hi => ?_
  unfold dia img
  rw [has_mk _ (by decide), has_orf (m := 4) (by decide) _ _ 4 (fun k _ => C.fit (hr k))]
  have h4 : decide (i < 4) = true := by simpa using hi
  rw [h4, Bool.true_and]
  have e : ∀ s, s < 4 → has 15 s = true := fun s hs => has_15 hs
  have hb : (bits .and .i64 (turn r i) 15 != 0) = (List.range 4).any fun s => has (r s) i := by
    rw [Bool.eq_iff_iff]
    simp only [bne_iff_ne, ne_eq, List.any_eq_true, List.mem_range]
    constructor
    · intro hne
      refine Classical.byContradiction fun hno => hne ?_
      refine C.ext (C.and (turn_ok r i) C.all) C.zero fun s hs => ?_
      rw [has_and (C.fit16 (turn_ok r i)) C.all.fit16, has_zero, has_15 hs, Bool.and_true]
      unfold turn
      rw [has_mk _ (by decide)]
      have : has (r s) i = false := by
        rw [Bool.eq_false_iff]; intro hh; exact hno ⟨s, hs, hh⟩
      rw [this, Bool.and_false]
    · rintro ⟨s, hs, hh⟩ h0
      have h1 := congrArg (fun p => has p s) h0
      simp only [has_zero] at h1
      rw [has_and (C.fit16 (turn_ok r i)) C.all.fit16, has_15 hs, Bool.and_true] at h1
      unfold turn at h1
      rw [has_mk _ (by decide), hh] at h1
      simp [hs] at h1
  rw [hb]
  rw [Bool.eq_iff_iff]
  simp only [List.any_eq_true, List.mem_range, Bool.and_eq_true]
  constructor
  · rintro ⟨s, hs, h⟩; exact ⟨s, hs, by simp [has_15 hs, h]⟩
  · rintro ⟨s, hs, h⟩; exact ⟨s, hs, by simpa [has_15 hs] using h⟩
def stayTo (im : Int) (q : Nat → Int) (k : Nat) : Bool := (List.range k).all fun s => (!has im s) || (bits .andNot .i64 (q s) im == 0)
theorem stayTo_succ (im : Int) (q : Nat → Int) (k : Nat) : stayTo im q (k + 1) = (stayTo im q k && ((!has im k) || (bits .andNot .i64 (q k) im == 0))) := by simp [stayTo, List.range_succ]
theorem stays_to {im : Int} (hi : C im) {q : Nat → Int} (hq : Cond q) : stayTo im q 4 = staysR im q := by
  unfold stayTo staysR
  rw [Bool.eq_iff_iff]
  simp only [List.all_eq_true, List.mem_range, Bool.or_eq_true, Bool.not_eq_true', beq_iff_eq]
  rw [dif_zero (img_ok hq im) hi]
  constructor
  · intro h i hi4 hh
    unfold img at hh
    rw [has_orf (m := 4) (by decide) _ _ 4 (fun k _ => C.fit (hq k))] at hh
    simp only [List.any_eq_true, List.mem_range, Bool.and_eq_true] at hh
    obtain ⟨s, hs, h1, h2⟩ := hh
    rcases h s hs with h3 | h3
    · rw [h3] at h1; cases h1
    · exact (dif_zero (hq s) hi).1 h3 i hi4 h2
  · intro h s hs
    cases hh : has im s
    · exact .inl rfl
    · refine .inr ((dif_zero (hq s) hi).2 fun i hi4 h2 => h i hi4 ?_)
      unfold img
      rw [has_orf (m := 4) (by decide) _ _ 4 (fun k _ => C.fit (hq k))]
      simp only [List.any_eq_true, List.mem_range, Bool.and_eq_true]
      exact ⟨s, hs, hh, h2⟩
end Go.Proofs.YtaeibhpkcikaaaaGreatDoor
