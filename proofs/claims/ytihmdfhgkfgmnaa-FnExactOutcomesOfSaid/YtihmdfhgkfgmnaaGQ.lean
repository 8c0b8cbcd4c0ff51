/- What the rows' steps need of the seat's program; what a walk is told of a slice of bytes that came in. -/
import Derived.Test.YtihmdfhgkfgmnaaRows
import Derived.Test.YtihmdfhgkfgmnaaPure
import Derived.ProofKit
import Derived.OpenShut
import Derived.ShutString
import Derived.ChangeOld
import Derived.Test.YtihmdfhgkfgmnaaPl2
import Derived.Test.YtihmdfhgkfgmnaaSpP8
import Derived.ChangeKeysEq
import Derived.Test.YtihmdfhgkfgmnaaImP5
import Derived.Maps.RangeWalk
import Derived.Maps.AppendAt
import Derived.Test.YtihmdfhgkfgmnaaLawP
/- RowKit -/
namespace Go.Proofs.Ytihmdfhgkfgmnaa
set_option linter.unusedVariables false
set_option linter.unusedSimpArgs false
open Go.ChangeShapes Go.WideShapes Go.ChangeAt Go.RowKit

theorem rowOwn : ownKnob Try.prog.godebug = none := by kernel_rfl
theorem rowLaidOut : laidOutB Try.prog = true := by kernel_rfl

/-- A slice of integers that came in: it is nil; or it leads to a row of 'cap' cells, the numbers 'zs'. -/
def IsRow (k : IntKind) (w : World) (a : Option Addr) (len cap : Nat) (zs : List Int) : Prop :=
  (a = none ∧ len = 0 ∧ cap = 0 ∧ zs = []) ∨
  ∃ x, a = some x ∧ len ≤ cap ∧ cap ≤ maxLen ∧ zs.length = cap ∧ (∀ i, i < zs.length → w.cell? (x.add i) = some (.int k (zs.getD i 0))) ∧ ∀ n ∈ zs, (Lit.int k n).wf = true
end Go.Proofs.Ytihmdfhgkfgmnaa

/- Tal -/
namespace Go.Proofs.Ytihmdfhgkfgmnaa
set_option linter.unusedVariables false
set_option linter.unusedSimpArgs false
open Go.RowKit Go.Shelf

/-- no loops -/
def nlp (o : UInt8) : Bool := !(o == 119 || o == 42 || o == 43)
def Ct.flat (t : Ct) : Bool := t.knows nlp
def tot : List Ct → Nat
  | [] => 0
  | x :: l => x.num + tot l
theorem tot_app (l m : List Ct) : tot (l ++ m) = tot l + tot m := by
  induction l with
  | nil => simp [tot]
  | cons x l ih => simp [tot, ih]; omega
def Flat (ts : List Ct) : Prop := ∀ t ∈ ts, t.flat = true
theorem Flat.app {l m : List Ct} (h : Flat l) (k : Flat m) : Flat (l ++ m) := fun x hx => by
  rw [List.mem_append] at hx
  rcases hx with hx | hx
  · exact h x hx
  · exact k x hx
theorem Flat.tail {t : Ct} {ts : List Ct} (h : Flat (t :: ts)) : Flat ts := fun x hx => h x (by simp [hx])
theorem flat_n2 {o : UInt8} {d : List Int} {x y : Ct} (h : (Ct.n2 o d x y).flat = true) : x.flat = true ∧ y.flat = true := by
  simp only [Ct.flat, Ct.knows, Bool.and_eq_true] at h ⊢; exact h.2
theorem flat_n1 {o : UInt8} {d : List Int} {x : Ct} (hw : (Ct.n1 o d x).WF) : (Ct.n1 o d x).flat = false := by
  rcases shp1 hw.1.1 with ⟨rfl, _⟩ | ⟨rfl | rfl, _⟩ <;> simp [Ct.flat, Ct.knows, nlp]
theorem next_flat {t : Ct} (hw : t.WF) (hf : t.flat = true) {s : Nat} {l : List Ct} (e : t.next s = .go l) : Flat l ∧ tot l + 1 ≤ t.num := by
  cases t with
  | n0 o d =>
    simp only [Ct.next] at e
    repeat' split at e
    all_goals first | (cases e; exact ⟨fun x hx => by simp at hx, by simp [tot, Ct.num]⟩) | cases e
  | n1 o d x => rw [flat_n1 hw] at hf; cases hf
  | n2 o d x y =>
    have h2 := flat_n2 hf
    simp only [Ct.next] at e
    repeat' split at e
    all_goals first | (cases e; exact ⟨fun z hz => by simp at hz; rcases hz with rfl | rfl <;> simp [h2], by simp [tot, Ct.num]; omega⟩) | (cases e; exact ⟨fun z hz => by simp at hz; subst hz; simp [h2], by simp [tot, Ct.num]; omega⟩) | (cases e; exact ⟨fun z hz => by simp at hz; subst hz; simp [h2], by simp [tot, Ct.num]⟩) | cases e
theorem chose_flat {t : Ct} (hw : t.WF) (hf : t.flat = true) (s k : Nat) : Flat (t.chose s k).2 ∧ tot (t.chose s k).2 + 1 ≤ t.num := by
  cases t with
  | n0 o d => exact ⟨fun x hx => by simp [Ct.chose] at hx, by simp [tot, Ct.num, Ct.chose]⟩
  | n1 o d x => rw [flat_n1 hw] at hf; cases hf
  | n2 o d x y =>
    have h2 := flat_n2 hf
    by_cases hk : k = 0
    · subst hk
      exact ⟨fun z hz => by simp [Ct.chose] at hz; subst hz; exact h2.1, by simp [tot, Ct.num, Ct.chose]; omega⟩
    · exact ⟨fun z hz => by simp [Ct.chose, hk] at hz; subst hz; exact h2.2, by simp [tot, Ct.num, Ct.chose, hk]; omega⟩
/-- a run without loops: what is left, and that nothing hangs on how many moves are allowed -/
theorem run_flat {n s : Nat} {ts : List Ct} (hf : FitC ts) (hl : Flat ts) (hn : tot ts ≤ n) : Flat (run n s ts).2.1 ∧ tot (run n s ts).2.1 + n ≤ tot ts + (run n s ts).1 ∧ (run n s ts).2.2 ≠ .long ∧ ∀ n', tot ts ≤ n' → (run n' s ts).2 = (run n s ts).2 := by
  induction n generalizing ts with
  | zero =>
    cases ts with
    | nil => exact ⟨hl, by simp [run_nil, tot], by simp [run_nil], fun n' _ => by rw [run_nil, run_nil]⟩
    | cons t ts =>
      have : 1 ≤ t.num := by cases t <;> simp [Ct.num] <;> omega
      simp [tot] at hn; omega
  | succ n ih =>
    cases ts with
    | nil => exact ⟨hl, by simp [run_nil, tot], by simp [run_nil], fun n' _ => by rw [run_nil, run_nil]⟩
    | cons t ts =>
      have h1 : 1 ≤ t.num := by cases t <;> simp [Ct.num] <;> omega
      have key : ∀ n', tot (t :: ts) ≤ n' → ∃ k, n' = k + 1 := fun n' h => ⟨n' - 1, by simp [tot] at h; omega⟩
      cases hx : t.next s with
      | go l =>
        have h2 := next_flat (hf t (by simp)).1 (hl t (by simp)) hx
        have h3 := hf.next hx
        have hle : tot (l ++ ts) + 1 ≤ tot (t :: ts) := by rw [tot_app]; simp only [tot]; omega
        have := ih (ts := l ++ ts) h3.1 (h2.1.app hl.tail) (by omega)
        rw [run_go hx]
        refine ⟨this.1, by omega, this.2.2.1, fun n' hn' => ?_⟩
        obtain ⟨k, rfl⟩ := key n' hn'
        rw [run_go hx]
        exact this.2.2.2 k (by omega)
      | stop a =>
        rw [run_stop hx]
        refine ⟨hl, Nat.le_refl _, by simp, fun n' hn' => ?_⟩
        obtain ⟨k, rfl⟩ := key n' hn'
        rw [run_stop hx]
      | pick =>
        cases ho : (t.opts s).isEmpty
        · rw [run_pick2 hx ho]
          refine ⟨hl, Nat.le_refl _, by simp, fun n' hn' => ?_⟩
          obtain ⟨k, rfl⟩ := key n' hn'
          rw [run_pick2 hx ho]
        · rw [run_pick1 hx ho]
          refine ⟨hl, Nat.le_refl _, by simp, fun n' hn' => ?_⟩
          obtain ⟨k, rfl⟩ := key n' hn'
          rw [run_pick1 hx ho]
theorem run_le0 (n s : Nat) (ts : List Ct) : (run n s ts).1 ≤ n := by
  induction n generalizing ts with
  | zero => cases ts <;> exact Nat.le_refl _
  | succ n ih =>
    cases ts with
    | nil => exact Nat.le_refl _
    | cons t ts =>
      cases hn : t.next s with
      | go l => rw [run_go hn]; have := ih (l ++ ts); omega
      | stop a => rw [run_stop hn]; exact Nat.le_refl _
      | pick =>
        cases ho : (t.opts s).isEmpty
        · rw [run_pick2 hn ho]; exact Nat.le_refl _
        · rw [run_pick1 hn ho]; exact Nat.le_refl _
theorem fit_run0 {n s : Nat} {ts : List Ct} (h : FitC ts) : FitC (run n s ts).2.1 := by
  induction n generalizing ts with
  | zero => cases ts <;> exact h
  | succ n ih =>
    cases ts with
    | nil => exact h
    | cons t ts =>
      cases hn : t.next s with
      | go l => rw [run_go hn]; exact ih (h.next hn).1
      | stop a => rw [run_stop hn]; exact h
      | pick =>
        cases ho : (t.opts s).isEmpty
        · rw [run_pick2 hn ho]; exact h
        · rw [run_pick1 hn ho]; exact h
/-- what plays come to -/
structure Sm where
  plays : Nat
  ends : Int
  angel : Bool
  demon : Bool
def Sm.zero : Sm := ⟨0, 0, false, false⟩
def Sm.add (a b : Sm) : Sm := ⟨a.plays + b.plays, bits .or .i64 a.ends b.ends, a.angel || b.angel, a.demon || b.demon⟩
def leafS (e : Fin) (s : Nat) : Sm := match e with
  | .done => ⟨1, sh s, false, false⟩
  | .broke true => ⟨1, 0, true, false⟩
  | .broke false => ⟨1, 0, false, true⟩
  | _ => ⟨1, 0, false, false⟩
def sumO (l : List Nat) (F : Nat → Sm) : Sm := l.foldl (fun a k => a.add (F k)) Sm.zero
theorem sumO_take (l : List Nat) (F : Nat → Sm) (k x : Nat) (h : l[k]? = some x) : sumO (l.take (k + 1)) F = (sumO (l.take k) F).add (F x) := by
  obtain ⟨hk, rfl⟩ := List.getElem?_eq_some_iff.1 h
  rw [List.take_succ_eq_append_getElem hk]
  unfold sumO
  rw [List.foldl_append]
  rfl
theorem foldl_plays (l : List Nat) (F : Nat → Sm) (a : Sm) : (l.foldl (fun a k => a.add (F k)) a).plays = a.plays + (l.foldl (fun a k => a.add (F k)) Sm.zero).plays := by
  induction l generalizing a with
  | nil => simp [Sm.zero]
  | cons x l ih =>
    simp only [List.foldl_cons]
    rw [ih, ih (a := Sm.zero.add (F x))]
    simp [Sm.add, Sm.zero]; omega
theorem sumO_le (l : List Nat) (F : Nat → Sm) (k : Nat) : (sumO (l.take k) F).plays ≤ (sumO l F).plays := by
  have h := foldl_plays (l.drop k) F (sumO (l.take k) F)
  have e : (l.drop k).foldl (fun a k => a.add (F k)) (sumO (l.take k) F) = sumO l F := by
    unfold sumO
    rw [← List.foldl_append, List.take_append_drop]
  rw [e] at h
  omega
def allA : Nat → Nat → List Ct → Sm
  | 0, _, _ => Sm.zero
  | f + 1, s, ts => match (run 200 s ts).2 with
    | (t :: us, .pick) => sumO (t.opts s) fun k => allA f (t.chose s k).1 ((t.chose s k).2 ++ us)
    | (_, e) => leafS e s
theorem all_leaf {f s : Nat} {ts us : List Ct} {e : Fin} (h : (run 200 s ts).2 = (us, e)) (he : e ≠ .pick) : allA (f + 1) s ts = leafS e s := by
  cases us <;> cases e <;> first | exact absurd rfl he | simp only [allA, h]
theorem all_pick {f s : Nat} {ts us : List Ct} {t : Ct} (h : (run 200 s ts).2 = (t :: us, .pick)) : allA (f + 1) s ts = sumO (t.opts s) fun k => allA f (t.chose s k).1 ((t.chose s k).2 ++ us) := by
  simp only [allA, h]
theorem sumO_bound (l : List Nat) (F : Nat → Sm) (B : Nat) (h : ∀ k ∈ l, (F k).plays ≤ B) : (sumO l F).plays ≤ l.length * B := by
  induction l with
  | nil => simp [sumO, Sm.zero]
  | cons x l ih =>
    have h1 := foldl_plays l F (Sm.zero.add (F x))
    have h2 := ih fun k hk => h k (by simp [hk])
    have h3 := h x (by simp)
    show (l.foldl (fun a k => a.add (F k)) (Sm.zero.add (F x))).plays ≤ _
    rw [h1]
    show (Sm.zero.add (F x)).plays + (sumO l F).plays ≤ _
    have e : (Sm.zero.add (F x)).plays = (F x).plays := by simp [Sm.add, Sm.zero]
    rw [e, List.length_cons, Nat.succ_mul]
    omega
theorem all_bound (f : Nat) : ∀ (s : Nat) (ts : List Ct), FitC ts → Flat ts → tot ts ≤ 200 → (allA f s ts).plays ≤ 4 ^ tot ts := by
  induction f with
  | zero => intro s ts _ _ _; simp [allA, Sm.zero]
  | succ f ih =>
    intro s ts hf hl ht
    have hfl := run_flat (s := s) hf hl ht
    obtain ⟨⟨m, us, e⟩, hR⟩ : ∃ r, r = run 200 s ts := ⟨_, rfl⟩
    rw [← hR] at hfl
    have hm : m ≤ 200 := by have := run_le0 200 s ts; rw [← hR] at this; exact this
    by_cases hp : e = .pick
    · subst hp
      obtain ⟨t, u, rfl, hnx, _, _, _⟩ := run_pick hR.symm
      have hfr : FitC (t :: u) := by have := fit_run0 (n := 200) (s := s) hf; rw [← hR] at this; exact this
      rw [all_pick (by rw [← hR])]
      have hlt := hfl.1 t (by simp)
      have htt := hfl.2.1
      simp only [tot] at htt
      refine Nat.le_trans (sumO_bound _ _ (4 ^ (tot ts - 1)) fun k hk => ?_) ?_
      · have hc := chose_flat (hfr t (by simp)).1 hlt s k
        have h1 : tot ((t.chose s k).2 ++ u) ≤ tot ts - 1 := by rw [tot_app]; omega
        refine Nat.le_trans (ih _ _ (fit_chose hfr s k).1 (hc.1.app hfl.1.tail) (by omega)) ?_
        exact Nat.pow_le_pow_right (by omega) h1
      · have h1 : 1 ≤ t.num := by cases t <;> simp [Ct.num] <;> omega
        have h2 : tot ts = (tot ts - 1) + 1 := by omega
        rw [h2, Nat.pow_succ, Nat.mul_comm]
        exact Nat.mul_le_mul_left _ (opts_le t s)
    · rw [all_leaf (by rw [← hR]) hp]
      have h1 : 0 < 4 ^ tot ts := Nat.pow_pos (by omega)
      have h2 : (leafS e s).plays = 1 := by
        cases e with
        | broke a => cases a <;> rfl
        | _ => rfl
      omega
end Go.Proofs.Ytihmdfhgkfgmnaa

/- Tal2 -/
namespace Go.Proofs.Ytihmdfhgkfgmnaa
set_option linter.unusedVariables false
set_option linter.unusedSimpArgs false
open Go.RowKit Go.Shelf

theorem or_assocC {a b c : Int} (ha : C a) (hb : C b) (hc : C c) : bits .or .i64 (bits .or .i64 a b) c = bits .or .i64 a (bits .or .i64 b c) :=
  C.ext (C.or (C.or ha hb) hc) (C.or ha (C.or hb hc)) fun i hi => by
    rw [has_or (C.or ha hb).fit16 hc.fit16, has_or ha.fit16 hb.fit16, has_or ha.fit16 (C.or hb hc).fit16, has_or hb.fit16 hc.fit16, Bool.or_assoc]
theorem or_zeroC {a : Int} (ha : C a) : bits .or .i64 a 0 = a :=
  C.ext (C.or ha C.zero) ha fun i hi => by rw [has_or ha.fit16 C.zero.fit16, has_zero, Bool.or_false]
theorem zero_orC {a : Int} (ha : C a) : bits .or .i64 0 a = a :=
  C.ext (C.or C.zero ha) ha fun i hi => by rw [has_or C.zero.fit16 ha.fit16, has_zero, Bool.false_or]
theorem sh_c {s : Nat} (h : s < 4) : C (sh s) := by
  obtain rfl | rfl | rfl | rfl : s = 0 ∨ s = 1 ∨ s = 2 ∨ s = 3 := by omega
  all_goals exact ⟨by decide +kernel, by decide +kernel⟩
theorem Sm.add_assoc {a b c : Sm} (ha : C a.ends) (hb : C b.ends) (hc : C c.ends) : (a.add b).add c = a.add (b.add c) := by
  simp only [Sm.add, or_assocC ha hb hc, Bool.or_assoc, Nat.add_assoc]
theorem Sm.add_zero {a : Sm} (ha : C a.ends) : a.add Sm.zero = a := by
  cases a
  simp only [Sm.add, Sm.zero, or_zeroC ha, Bool.or_false, Nat.add_zero]
theorem Sm.zero_add {a : Sm} (ha : C a.ends) : Sm.zero.add a = a := by
  cases a
  simp only [Sm.add, Sm.zero, zero_orC ha, Bool.false_or, Nat.zero_add]
theorem foldl_c (l : List Nat) (F : Nat → Sm) (h : ∀ k ∈ l, C (F k).ends) (a : Sm) (ha : C a.ends) : C (l.foldl (fun a k => a.add (F k)) a).ends := by
  induction l generalizing a with
  | nil => exact ha
  | cons x l ih => exact ih (fun k hk => h k (by simp [hk])) _ (C.or ha (h x (by simp)))
theorem sumO_c (l : List Nat) (F : Nat → Sm) (h : ∀ k ∈ l, C (F k).ends) : C (sumO l F).ends := foldl_c l F h _ C.zero
theorem leaf_c (e : Fin) {s : Nat} (h : s < 4) : C (leafS e s).ends := by
  cases e with
  | done => exact sh_c h
  | broke a => cases a <;> exact C.zero
  | _ => exact C.zero
theorem all_c (f : Nat) : ∀ (s : Nat) (ts : List Ct), s < 4 → C (allA f s ts).ends := by
  induction f with
  | zero => intro s ts _; exact C.zero
  | succ f ih =>
    intro s ts hs
    obtain ⟨us, e, h⟩ : ∃ us e, (run 200 s ts).2 = (us, e) := ⟨_, _, rfl⟩
    by_cases hp : e = .pick
    · subst hp
      cases us with
      | nil =>
        have : allA (f + 1) s ts = leafS .pick s := by simp only [allA, h]
        rw [this]; exact leaf_c _ hs
      | cons t us =>
        rw [all_pick h]
        exact sumO_c _ _ fun k hk => ih _ _ (chose_lt hs hk)
    · rw [all_leaf h hp]; exact leaf_c e hs
end Go.Proofs.Ytihmdfhgkfgmnaa

/- SpP9 -/
namespace Go.Proofs.Ytihmdfhgkfgmnaa
set_option linter.unusedVariables false
set_option linter.unusedSimpArgs false
open Go.RowKit Go.Shelf
set_option maxRecDepth 100000
set_option maxHeartbeats 10000000

theorem sm_u : ∃ fs, Try.prog.underlying 76 = some (.struct fs) := ⟨_, Try.underlying76⟩
theorem sm_i : (Try.prog.info? 76).map (·.size) = some 4 := by kernel_rfl
/-- a sum as cells -/
def Sm.cells (a : Sm) : Array Value := #[.int .i64 (a.plays : Nat), .int .i64 a.ends, .bool a.angel, .bool a.demon]
theorem Sm.cells_size (a : Sm) : a.cells.size = 4 := rfl
def SumEnd (a : Sm) (w : World) (e : Ending) (w' : World) : Prop := e = .returned (.agg a.cells) ∧ Below w.heap.size w w'
/-- what an end comes to, for each end -/
theorem spec_allLeaf (f : Fin) (hf : f ≠ .pick) (s : Nat) (hs : s < 4) (ts : List Ct) (g cap : Nat) (w : World)
    (HR : ∀ W, Below w.heap.size w W → Calls Try.prog 117 #[.agg #[.slice (some ⟨g, 0, none⟩) ts.length cap, .int .i64 s], .int .i64 200] W fun e w' => Below W.heap.size W w' ∧ ∃ g2 cap2 n2 m2, e = .returned (.tuple #[.agg #[.slice (some ⟨g2, 0, none⟩) n2 cap2, .int .i64 s], .string (toldF f), .int .i64 m2])) :
    Calls Try.prog 61 #[.agg #[.slice (some ⟨g, 0, none⟩) ts.length cap, .int .i64 s]] w (SumEnd (leafS f s) w) := by
  obtain ⟨fs, hu⟩ := at_u
  obtain ⟨fs2, hu2⟩ := sm_u
  have hb0 := below_new (below_new (Below.refl w.heap.size w) (Obj.cells #[.slice (some ⟨g, 0, none⟩) ts.length cap, .int .i64 s] 65)) (Obj.cells #[.int .i64 0, .int .i64 0, .bool false, .bool false] 76)
  have BA := (Blk.new w 65 #[.slice (some ⟨g, 0, none⟩) ts.length cap, .int .i64 s]).old (Obj.cells #[.int .i64 0, .int .i64 0, .bool false, .bool false] 76)
  have BZ := Blk.newAt (w.alloc (Obj.cells #[.slice (some ⟨g, 0, none⟩) ts.length cap, .int .i64 s] 65)) 76 #[.int .i64 0, .int .i64 0, .bool false, .bool false] (w.heap.size + 1) (by simp)
  have HR2 := HR _ hb0
  clear HR
  go_enter Try.func61, Try.ntmps61
  go_wp2_with (refine wp_load_Blk rfl _ _ rfl w.heap.size rfl BA hu rfl at_i ?_)
  refine HR2.mono ?_
  rintro e w1 ⟨hb1, g2, cap2, n2, m2, rfl⟩
  have BA1 := BA.grown hb1
  have BZ1 := BZ.grown hb1
  have hb := below_step hb0 hb1
  clear HR2 BA BZ
  have BA2 := BA1.setRow #[.slice (some ⟨g2, 0, none⟩) n2 cap2, .int .i64 s]
  have BZ2 := BZ1.setRowOther w.heap.size #[.slice (some ⟨g2, 0, none⟩) n2 cap2, .int .i64 s] (by omega)
  have hb2 := below_setRow hb (Nat.le_refl _) #[.slice (some ⟨g2, 0, none⟩) n2 cap2, .int .i64 s]
  have hcX : ∀ o, ((w1.setRow w.heap.size #[.slice (some ⟨g2, 0, none⟩) n2 cap2, .int .i64 s]).alloc o).cell? ⟨w.heap.size, 1, none⟩ = some (.int .i64 s) := fun o => (BA2.old o).cell2.2
  have hl := BZ1.lt
  cases f with
  | pick => exact absurd rfl hf
  | done =>
    rw [show toldF .done = ⟨#[100, 111, 110, 101]⟩ from rfl]
    go_wp2_with (first
      | (refine wp_store_Blk rfl _ _ _ rfl w.heap.size rfl rfl BA1 at_i rfl (by simp [Value.oneCell']) ?_)
      | (refine wp_store_Blk rfl _ _ _ rfl (w.heap.size + 1) rfl rfl (BZ2.old _) sm_i rfl (by simp [Value.oneCell']) ?_))
    refine ret_Blk rfl (w.heap.size + 1) rfl ((BZ2.old _).setRow _) hu2 rfl sm_i rfl ⟨rfl, below_setRow (below_new hb2 _) (by omega) _⟩
  | long =>
    rw [show toldF .long = ⟨#[108, 111, 110, 103]⟩ from rfl]
    go_wp2_with (first
      | (refine wp_store_Blk rfl _ _ _ rfl w.heap.size rfl rfl BA1 at_i rfl (by simp [Value.oneCell']) ?_)
      | (refine wp_store_Blk rfl _ _ _ rfl (w.heap.size + 1) rfl rfl (BZ2.old _) sm_i rfl (by simp [Value.oneCell']) ?_))
    refine ret_Blk rfl (w.heap.size + 1) rfl ((BZ2.old _).setRow _) hu2 rfl sm_i rfl ⟨rfl, below_setRow (below_new hb2 _) (by omega) _⟩
  | broke a =>
    cases a
    · rw [show toldF (.broke false) = ⟨#[100, 101, 109, 111, 110]⟩ from rfl]
      go_wp2_with (first
        | (refine wp_store_Blk rfl _ _ _ rfl w.heap.size rfl rfl BA1 at_i rfl (by simp [Value.oneCell']) ?_)
        | (refine wp_store_Blk rfl _ _ _ rfl (w.heap.size + 1) rfl rfl (BZ2.old _) sm_i rfl (by simp [Value.oneCell']) ?_))
      refine ret_Blk rfl (w.heap.size + 1) rfl ((BZ2.old _).setRow _) hu2 rfl sm_i rfl ⟨rfl, below_setRow (below_new hb2 _) (by omega) _⟩
    · rw [show toldF (.broke true) = ⟨#[97, 110, 103, 101, 108]⟩ from rfl]
      go_wp2_with (first
        | (refine wp_store_Blk rfl _ _ _ rfl w.heap.size rfl rfl BA1 at_i rfl (by simp [Value.oneCell']) ?_)
        | (refine wp_store_Blk rfl _ _ _ rfl (w.heap.size + 1) rfl rfl (BZ2.old _) sm_i rfl (by simp [Value.oneCell']) ?_))
      refine ret_Blk rfl (w.heap.size + 1) rfl ((BZ2.old _).setRow _) hu2 rfl sm_i rfl ⟨rfl, below_setRow (below_new hb2 _) (by omega) _⟩
theorem len_tot (ts : List Ct) : ts.length ≤ tot ts := by
  induction ts with
  | nil => exact Nat.le_refl _
  | cons t ts ih =>
    have : 1 ≤ t.num := by cases t <;> simp [Ct.num] <;> omega
    simp only [List.length_cons, tot]; omega
structure SumAt (w wr : World) (O : Nat) (t1 : Ct) (us : List Ct) (s g cap : Nat) (sm : Sm) : Prop where
  a : Blk wr w.heap.size 65 #[.slice (some ⟨g, 0, none⟩) (us.length + 1) cap, .int .i64 s]
  z : Blk wr (w.heap.size + 1) 76 #[.int .i64 0, .int .i64 0, .bool false, .bool false]
  o : Blk wr O 76 sm.cells
  t : Todo wr g (t1 :: us)
  b : Below w.heap.size w wr
theorem SumAt.grown {w wr wr' : World} {O : Nat} {t1 : Ct} {us : List Ct} {s g cap : Nat} {a : Sm} (h : SumAt w wr O t1 us s g cap a) (hb : Below wr.heap.size wr wr') : SumAt w wr' O t1 us s g cap a :=
  ⟨h.a.grown hb, h.z.grown hb, h.o.grown hb, h.t.grown hb, below_step h.b hb⟩
theorem SumAt.setB {w wr : World} {O : Nat} {t1 : Ct} {us : List Ct} {s g cap : Nat} {sm : Sm} (h : SumAt w wr O t1 us s g cap sm) {B n0 : Nat} (hn : w.heap.size + 1 < n0) (hO : O < n0) (hg : g < n0) (hB : n0 ≤ B) (d : Array Value) : SumAt w (wr.setRow B d) O t1 us s g cap sm :=
  ⟨h.a.setRowOther _ _ (by omega), h.z.setRowOther _ _ (by omega), h.o.setRowOther _ _ (by omega), ⟨fun j x hj => cell_kept (h.t.lies j x hj) (setRow_other _ _ _ _ (by omega))⟩, below_setRow h.b (by omega) _⟩
theorem Blk.cell4 {w : World} {b : Nat} {t : TypeId} {x y z u : Value} (h : Blk w b t #[x, y, z, u]) : w.cell? ⟨b, 0, none⟩ = some x ∧ w.cell? ⟨b, 1, none⟩ = some y ∧ w.cell? ⟨b, 2, none⟩ = some z ∧ w.cell? ⟨b, 3, none⟩ = some u := by
  refine ⟨?_, ?_, ?_, ?_⟩
  · rw [cell_of_row w b 0 _ _ _ h.eq]; rfl
  · rw [cell_of_row w b 1 _ _ _ h.eq]; rfl
  · rw [cell_of_row w b 2 _ _ _ h.eq]; rfl
  · rw [cell_of_row w b 3 _ _ _ h.eq]; rfl
theorem optsB_at (l : List Nat) (k x : Nat) (h : l[k]? = some x) : bt (optsB l) k = decB x := by
  obtain ⟨hk, rfl⟩ := List.getElem?_eq_some_iff.1 h
  exact bt_optsB l k hk
theorem spec_allPick (s : Nat) (hs : s < 4) (ts : List Ct) (g cap : Nat) (w : World) (t1 : Ct) (us : List Ct) (hf1 : t1.WF ∧ t1.len ≤ 200) (hnx : t1.next s = .pick) (hne : t1.opts s ≠ []) (hlen : us.length ≤ 1000) (F : Nat → Sm) (hB : (sumO (t1.opts s) F).plays ≤ 1099511627776)
    (HR : ∀ W, Below w.heap.size w W → Calls Try.prog 117 #[.agg #[.slice (some ⟨g, 0, none⟩) ts.length cap, .int .i64 s], .int .i64 200] W fun e w' => Below W.heap.size W w' ∧ ∃ g2 cap2 m2, e = .returned (.tuple #[.agg #[.slice (some ⟨g2, 0, none⟩) (us.length + 1) cap2, .int .i64 s], .string ⟨#[99, 104, 111, 105, 99, 101]⟩, .int .i64 m2]) ∧ Todo w' g2 (t1 :: us) ∧ us.length + 1 ≤ cap2)
    (REC : ∀ k ∈ t1.opts s, ∀ g cap W, Todo W g ((t1.chose s k).2 ++ us) → ((t1.chose s k).2 ++ us).length ≤ cap → Calls Try.prog 61 #[.agg #[.slice (some ⟨g, 0, none⟩) ((t1.chose s k).2 ++ us).length cap, .int .i64 ((t1.chose s k).1 : Nat)]] W (SumEnd (F k) W)) :
    Calls Try.prog 61 #[.agg #[.slice (some ⟨g, 0, none⟩) ts.length cap, .int .i64 s]] w (SumEnd (sumO (t1.opts s) F) w) := by
  obtain ⟨fs, hu⟩ := at_u
  obtain ⟨fs2, hu2⟩ := sm_u
  have hb0 := below_new (below_new (Below.refl w.heap.size w) (Obj.cells #[.slice (some ⟨g, 0, none⟩) ts.length cap, .int .i64 s] 65)) (Obj.cells #[.int .i64 0, .int .i64 0, .bool false, .bool false] 76)
  have BA := (Blk.new w 65 #[.slice (some ⟨g, 0, none⟩) ts.length cap, .int .i64 s]).old (Obj.cells #[.int .i64 0, .int .i64 0, .bool false, .bool false] 76)
  have BZ := Blk.newAt (w.alloc (Obj.cells #[.slice (some ⟨g, 0, none⟩) ts.length cap, .int .i64 s] 65)) 76 #[.int .i64 0, .int .i64 0, .bool false, .bool false] (w.heap.size + 1) (by simp)
  have HR2 := HR _ hb0
  have HREC := Lib.hid REC
  have HNX := Lib.hid hnx
  clear HR REC hnx
  go_enter Try.func61, Try.ntmps61
  go_wp2_with (refine wp_load_Blk rfl _ _ rfl w.heap.size rfl BA hu rfl at_i ?_)
  refine HR2.mono ?_
  rintro e w1 ⟨hb1, g2, cap2, m2, rfl, hT2, hc2⟩
  have BA1 := BA.grown hb1
  have BZ1 := BZ.grown hb1
  have hb := below_step hb0 hb1
  have hl := BZ1.lt
  have H0 : SumAt w ((w1.setRow w.heap.size #[.slice (some ⟨g2, 0, none⟩) (us.length + 1) cap2, .int .i64 s]).alloc (Obj.cells #[.int .i64 0, .int .i64 0, .bool false, .bool false] 76)) w1.heap.size t1 us s g2 cap2 Sm.zero :=
    ⟨(BA1.setRow _).old _, (BZ1.setRowOther _ _ (by omega)).old _, Blk.newAt (w1.setRow w.heap.size #[.slice (some ⟨g2, 0, none⟩) (us.length + 1) cap2, .int .i64 s]) _ _ w1.heap.size (by simp), (hT2.setRow BA1 _).grown (below_new (Below.refl _ _) _), below_new (below_setRow hb (Nat.le_refl _) _) _⟩
  clear HR2 BA BZ hb hb0 hT2 BZ1
  have BA3 := H0.a
  go_wp2_with (first
    | (refine wp_store_Blk rfl _ _ _ rfl w.heap.size rfl rfl BA1 at_i rfl (by simp [Value.oneCell']) ?_)
    | (refine wp_load_Blk rfl _ _ rfl w.heap.size rfl BA3 hu rfl at_i ?_))
  refine (spec_l6Options t1 hf1.1 us s hs HNX.out g2 cap2 _ H0.t (by omega)).mono ?_
  rintro e w3 ⟨rfl, hb3⟩
  have H1 := H0.grown hb3
  have hsz := optsB_size (t1.opts s)
  have hol := opts_le t1 s
  have hO : w.heap.size + 1 < w1.heap.size := hl
  have hOl := H1.o.lt
  have HOL : Hid (∀ (k : Nat) x, (t1.opts s)[k]? = some x → bt (optsB (t1.opts s)) k = decB x) := fun k x h => optsB_at _ k x h
  clear H0 BA1 BA3 hb1 hb3 hl
  generalize hTX : optsB (t1.opts s) = TX at *
  clear hTX
  have HSZ := Lib.hid hsz
  have hTX4 : TX.size ≤ 4 := by omega
  clear hsz
  generalize w1.heap.size = O at *
  clear w1
  go_wp2_with fail
  go_loopw [8] (fun i wr => ∃ k : Nat, k ≤ TX.size ∧ i = .int .i64 k ∧ SumAt w wr O t1 us s g2 cap2 (sumO ((t1.opts s).take k) F)) (fun i _ => TX.size - (intOf i).toNat)
  case atStart => exact ⟨0, by omega, rfl, H1⟩
  case round =>
    clear H1 hOl
    obtain ⟨k, hk, rfl, H⟩ := hrel
    have HA := H.a
    have HOO := H.o
    have HZ := H.z
    have hol2 := HOO.lt
    have hgO : g2 ≠ O := fun e => by
      have h1 := H.t.last
      rw [e, cell_of_row _ _ us.length _ _ _ HOO.eq] at h1
      obtain h | h | h | h | h : us.length = 0 ∨ us.length = 1 ∨ us.length = 2 ∨ us.length = 3 ∨ 4 ≤ us.length := by omega
      · rw [h] at h1; simp [Sm.cells] at h1
      · rw [h] at h1; simp [Sm.cells] at h1
      · rw [h] at h1; simp [Sm.cells] at h1
      · rw [h] at h1; simp [Sm.cells] at h1
      · rw [Array.getElem?_eq_none (by rw [Sm.cells_size]; omega)] at h1; cases h1
    by_cases hlt : k < TX.size
    · have hki : (k : Int) < (TX.size : Int) := by omega
      obtain ⟨x, hx⟩ : ∃ x, (t1.opts s)[k]? = some x := ⟨(t1.opts s)[k]'(by have := HSZ.out; omega), by simp⟩
      have hxm := List.mem_of_getElem? hx
      have hx4 := opts_lt hxm
      have HBT := Lib.hid (HOL.out k x hx)
      have HTK := Lib.hid (sumO_take (t1.opts s) F k x hx)
      have hle := sumO_le (t1.opts s) F (k + 1)
      have hle0 := sumO_le (t1.opts s) F k
      rw [HTK.out] at hle
      have HCH := Lib.hid (spec_l6Choose t1 us s hs (bt TX k).toNat x (by rw [HBT.out]; exact decB_toNat hx4) HNX.out hxm g2 cap2)
      have hgl : g2 < wr.heap.size := block_lt_of_cell H.t.last
      have hzl := HZ.lt
      have HREX := Lib.hid (HREC.out x hxm)
      obtain ⟨⟨p1, e1, a1, d1⟩, hacc⟩ : ∃ a, a = sumO ((t1.opts s).take k) F := ⟨_, rfl⟩
      obtain ⟨⟨p2, e2, a2, d2⟩, hFx⟩ : ∃ a, a = F x := ⟨_, rfl⟩
      rw [← hFx] at HREX
      rw [← hacc, ← hFx] at HTK hle
      rw [← hacc] at H hle0
      have hpl : p1 + p2 ≤ 1099511627776 := by simp only [Sm.add] at hle; omega
      clear hle hle0 HREC hacc hFx
      go_wp2_with fail
      refine wp_region_held_drew (S := fun W => SumAt w W O t1 us s g2 cap2 ⟨p1, e1, a1, d1⟩ ∧ Below wr.heap.size wr W) (by kernel_rfl) ?_ (fun hS => ?_)
      · exact ⟨⟨HA.drew, HZ.drew, H.o.drew, H.t.drew, H.b.drew⟩, (Below.refl _ _).drew⟩
      refine wpAnyH_take (i := 0) (v := .agg #[.slice (some ⟨g2, 0, none⟩) (us.length + 1) cap2, .int .i64 s]) rfl (by kernel_rfl) (by kernel_rfl) (by kernel_rfl) (fun _ _ _ h => h) (yields_Blk (by rfl) _ _ rfl w.heap.size rfl (fun _ h => h.1.a) hu rfl at_i) hS ?_
      simp only [Act.put, List.getElem_toArray, List.getElem_cons_succ, List.getElem_cons_zero, List.setIfInBounds_toArray, List.set_cons_zero, List.set_cons_succ]
      refine wpAnyH_take (i := 1) (v := .string TX) rfl (by kernel_rfl) (by kernel_rfl) (by kernel_rfl) (fun _ _ _ h => h) (Or.inl ⟨by rfl, ?_⟩) hS ?_
      · intro w hSw
        go_simp
      simp only [Act.put, List.getElem_toArray, List.getElem_cons_succ, List.getElem_cons_zero, List.setIfInBounds_toArray, List.set_cons_zero, List.set_cons_succ]
      refine wpAnyH_take (i := 2) (v := .int .i64 k) rfl (by kernel_rfl) (by kernel_rfl) (by kernel_rfl) (fun _ _ _ h => h) (Or.inl ⟨by rfl, ?_⟩) hS ?_
      · intro w hSw
        go_simp
      simp only [Act.put, List.getElem_toArray, List.getElem_cons_succ, List.getElem_cons_zero, List.setIfInBounds_toArray, List.set_cons_zero, List.set_cons_succ]
      refine wpAnyH_take (i := 3) (v := .int .u8 ((bt TX k).toNat : Int)) rfl (by kernel_rfl) (by kernel_rfl) (by kernel_rfl) (fun _ _ _ h => h) (Or.inl ⟨by rfl, ?_⟩) hS ?_
      · intro w hSw
        go_simp
      simp only [Act.put, List.getElem_toArray, List.getElem_cons_succ, List.getElem_cons_zero, List.setIfInBounds_toArray, List.set_cons_zero, List.set_cons_succ]
      have hbd : Below wr.heap.size wr wr.drew := (Below.refl _ _).drew
      generalize hwd : wr.drew = W0 at *
      clear hwd
      refine wpAnyH_ready (rs := [4, 6]) (by kernel_rfl) (by simp) ?_
      refine AllReadyH.cons rfl (fun K hK => ?_) (AllReadyH.cons rfl (fun K hK => ?_) AllReadyH.nil)
      · rw [if_pos (by rfl)]
        refine op_call 119 _ _ rfl (enters_of Try.func119 (by kernel_rfl) rfl) _ (HCH.out W0 hf1.1 hf1.2 hS.1.t (by omega) hc2) rfl ?_
        rintro e W41 ⟨hbn, g3, cap3, he3, hT3, hc3⟩
        obtain ⟨kk, hkk⟩ : ∃ kk, ((t1.chose s x).2 ++ us).length = kk := ⟨_, rfl⟩
        rw [hkk] at he3
        subst he3
        have HKK := Lib.hid hkk
        clear hkk
        refine ⟨_, rfl, ?_⟩
        refine hK.out _ _ ⟨hS.1.grown hbn, below_step hS.2 hbn⟩ (fun hS1 => ?_)
        skip
        clear hK K hbn
        replace hS := hS1
        clear hS1
        try simp only [Act.put, List.getElem_toArray, List.getElem_cons_succ, List.getElem_cons_zero, List.setIfInBounds_toArray, List.set_cons_zero, List.set_cons_succ]
        refine wpAnyH_ready (rs := [5, 6]) (by kernel_rfl) (by simp) ?_
        refine AllReadyH.cons rfl (fun K hK => ?_) (AllReadyH.cons rfl (fun K hK => ?_) AllReadyH.nil)
        · rw [if_pos (by rfl)]
          have HRE := HREX.out g3 cap3 W41 hT3 hc3
          rw [HKK.out] at HRE
          refine op_call 61 _ _ rfl (enters_of Try.func61 (by kernel_rfl) rfl) _ HRE rfl ?_
          rintro e W52 ⟨rfl, hbn⟩
          refine ⟨_, rfl, ?_⟩
          refine hK.out _ _ ⟨hS.1.grown hbn, below_step hS.2 hbn⟩ (fun hS1 => ?_)
          skip
          clear hK K hbn HRE
          replace hS := hS1
          clear hS1
          try simp only [Act.put, List.getElem_toArray, List.getElem_cons_succ, List.getElem_cons_zero, List.setIfInBounds_toArray, List.set_cons_zero, List.set_cons_succ]
          refine wpAnyH_ready (rs := [6]) (by kernel_rfl) (by simp) ?_
          refine AllReadyH.cons rfl (fun K hK => ?_) AllReadyH.nil
          rw [if_pos (by rfl)]
          have hBl : wr.heap.size ≤ W52.heap.size := hS.2.size
          have HB := Blk.new W52 76 #[.int .i64 0, .int .i64 0, .bool false, .bool false]
          have hbn := below_new (Below.refl W52.heap.size W52) (Obj.cells #[.int .i64 0, .int .i64 0, .bool false, .bool false] 76)
          unfold Oper.wp
          go_simp
          refine hK.out _ (W52.alloc (Obj.cells #[.int .i64 0, .int .i64 0, .bool false, .bool false] 76)) ⟨hS.1.grown hbn, below_step hS.2 hbn⟩ (fun hS1 => ?_)
          clear hK K hS
          have hS := hS1
          clear hS1
          skip
          clear hbn
          generalize W52.heap.size = B at *
          generalize W52.alloc (Obj.cells #[.int .i64 0, .int .i64 0, .bool false, .bool false] 76) = W63 at *
          try simp only [Act.put, List.getElem_toArray, List.getElem_cons_succ, List.getElem_cons_zero, List.setIfInBounds_toArray, List.set_cons_zero, List.set_cons_succ]
          refine wpAnyH_ready (rs := [7]) (by kernel_rfl) (by simp) ?_
          refine AllReadyH.cons rfl (fun K hK => ?_) AllReadyH.nil
          rw [if_pos (by rfl)]
          refine op_store_Blk _ _ _ rfl B rfl rfl HB sm_i rfl (by simp [Sm.cells, Value.oneCell']) ?_
          have hS6 := hS.1.setB (by omega) hol2 hgl hBl (Sm.mk p2 e2 a2 d2).cells
          refine hK.out _ _ ⟨hS6, below_setRow hS.2 hBl _⟩ (fun _ => ?_)
          clear hK K
          try simp only [Act.put, List.getElem_toArray, List.getElem_cons_succ, List.getElem_cons_zero, List.setIfInBounds_toArray, List.set_cons_zero, List.set_cons_succ]
          refine wpAnyH_done (by kernel_rfl) ?_ _
          have HB2 := HB.setRow (Sm.mk p2 e2 a2 d2).cells
          have hBne : B ≠ O := by omega
          clear hS HB
          generalize W63.setRow B (Sm.mk p2 e2 a2 d2).cells = W9 at *
          have HO6 := hS6.o
          have HO7 : Blk W9 O 76 #[.int .i64 (p1 : Nat), .int .i64 e1, .bool a1, .bool d1] := HO6
          obtain ⟨c0, c1, c2, c3⟩ := HO7.cell4
          obtain ⟨b0, b1, b2, b3⟩ := (show Blk W9 B 76 #[.int .i64 (p2 : Nat), .int .i64 e2, .bool a2, .bool d2] from HB2).cell4
          try simp only at c0 c1 c2 c3
          clear HB2
          have hlO := HO6.lt
          cases a1
          all_goals
            cases d1
            all_goals
              go_wp2_with (refine wp_store_Blk rfl _ _ _ rfl O rfl rfl HO6 sm_i rfl (by simp [Value.oneCell']) ?_)
              try simp only [Act.put]
              go_wp2_with fail
              go_roundw
              case rel =>
                refine ⟨k + 1, by omega, by go_num, hS6.a.setRowOther _ _ (by omega), hS6.z.setRowOther _ _ (by omega), ?_, ⟨fun j z hj => cell_kept (hS6.t.lies j z hj) (setRow_other _ _ _ _ (by have := hgO; omega))⟩, below_setRow hS6.b (by omega) _⟩
                rw [HTK.out]
                exact HO6.setRow _
              case measure => simp [intOf]; omega
        · rw [if_pos (by rfl)]
          have hBl : wr.heap.size ≤ W41.heap.size := hS.2.size
          have HB := Blk.new W41 76 #[.int .i64 0, .int .i64 0, .bool false, .bool false]
          have hbn := below_new (Below.refl W41.heap.size W41) (Obj.cells #[.int .i64 0, .int .i64 0, .bool false, .bool false] 76)
          unfold Oper.wp
          go_simp
          refine hK.out _ (W41.alloc (Obj.cells #[.int .i64 0, .int .i64 0, .bool false, .bool false] 76)) ⟨hS.1.grown hbn, below_step hS.2 hbn⟩ (fun hS1 => ?_)
          clear hK K hS
          have hS := hS1
          clear hS1
          replace hT3 := hT3.grown hbn
          clear hbn
          generalize W41.heap.size = B at *
          generalize W41.alloc (Obj.cells #[.int .i64 0, .int .i64 0, .bool false, .bool false] 76) = W62 at *
          try simp only [Act.put, List.getElem_toArray, List.getElem_cons_succ, List.getElem_cons_zero, List.setIfInBounds_toArray, List.set_cons_zero, List.set_cons_succ]
          refine wpAnyH_ready (rs := [5]) (by kernel_rfl) (by simp) ?_
          refine AllReadyH.cons rfl (fun K hK => ?_) AllReadyH.nil
          rw [if_pos (by rfl)]
          have HRE := HREX.out g3 cap3 W62 hT3 hc3
          rw [HKK.out] at HRE
          refine op_call 61 _ _ rfl (enters_of Try.func61 (by kernel_rfl) rfl) _ HRE rfl ?_
          rintro e W53 ⟨rfl, hbn⟩
          refine ⟨_, rfl, ?_⟩
          refine hK.out _ _ ⟨hS.1.grown hbn, below_step hS.2 hbn⟩ (fun hS1 => ?_)
          replace HB := HB.grown hbn
          clear hK K hbn HRE
          replace hS := hS1
          clear hS1
          try simp only [Act.put, List.getElem_toArray, List.getElem_cons_succ, List.getElem_cons_zero, List.setIfInBounds_toArray, List.set_cons_zero, List.set_cons_succ]
          refine wpAnyH_ready (rs := [7]) (by kernel_rfl) (by simp) ?_
          refine AllReadyH.cons rfl (fun K hK => ?_) AllReadyH.nil
          rw [if_pos (by rfl)]
          refine op_store_Blk _ _ _ rfl B rfl rfl HB sm_i rfl (by simp [Sm.cells, Value.oneCell']) ?_
          have hS6 := hS.1.setB (by omega) hol2 hgl hBl (Sm.mk p2 e2 a2 d2).cells
          refine hK.out _ _ ⟨hS6, below_setRow hS.2 hBl _⟩ (fun _ => ?_)
          clear hK K
          try simp only [Act.put, List.getElem_toArray, List.getElem_cons_succ, List.getElem_cons_zero, List.setIfInBounds_toArray, List.set_cons_zero, List.set_cons_succ]
          refine wpAnyH_done (by kernel_rfl) ?_ _
          have HB2 := HB.setRow (Sm.mk p2 e2 a2 d2).cells
          have hBne : B ≠ O := by omega
          clear hS HB
          generalize W53.setRow B (Sm.mk p2 e2 a2 d2).cells = W9 at *
          have HO6 := hS6.o
          have HO7 : Blk W9 O 76 #[.int .i64 (p1 : Nat), .int .i64 e1, .bool a1, .bool d1] := HO6
          obtain ⟨c0, c1, c2, c3⟩ := HO7.cell4
          obtain ⟨b0, b1, b2, b3⟩ := (show Blk W9 B 76 #[.int .i64 (p2 : Nat), .int .i64 e2, .bool a2, .bool d2] from HB2).cell4
          try simp only at c0 c1 c2 c3
          clear HB2
          have hlO := HO6.lt
          cases a1
          all_goals
            cases d1
            all_goals
              go_wp2_with (refine wp_store_Blk rfl _ _ _ rfl O rfl rfl HO6 sm_i rfl (by simp [Value.oneCell']) ?_)
              try simp only [Act.put]
              go_wp2_with fail
              go_roundw
              case rel =>
                refine ⟨k + 1, by omega, by go_num, hS6.a.setRowOther _ _ (by omega), hS6.z.setRowOther _ _ (by omega), ?_, ⟨fun j z hj => cell_kept (hS6.t.lies j z hj) (setRow_other _ _ _ _ (by have := hgO; omega))⟩, below_setRow hS6.b (by omega) _⟩
                rw [HTK.out]
                exact HO6.setRow _
              case measure => simp [intOf]; omega
      · rw [if_pos (by rfl)]
        have hBl : wr.heap.size ≤ W0.heap.size := hS.2.size
        have HB := Blk.new W0 76 #[.int .i64 0, .int .i64 0, .bool false, .bool false]
        have hbn := below_new (Below.refl W0.heap.size W0) (Obj.cells #[.int .i64 0, .int .i64 0, .bool false, .bool false] 76)
        unfold Oper.wp
        go_simp
        refine hK.out _ (W0.alloc (Obj.cells #[.int .i64 0, .int .i64 0, .bool false, .bool false] 76)) ⟨hS.1.grown hbn, below_step hS.2 hbn⟩ (fun hS1 => ?_)
        clear hK K hS
        have hS := hS1
        clear hS1
        skip
        clear hbn
        generalize W0.heap.size = B at *
        generalize W0.alloc (Obj.cells #[.int .i64 0, .int .i64 0, .bool false, .bool false] 76) = W61 at *
        try simp only [Act.put, List.getElem_toArray, List.getElem_cons_succ, List.getElem_cons_zero, List.setIfInBounds_toArray, List.set_cons_zero, List.set_cons_succ]
        refine wpAnyH_ready (rs := [4]) (by kernel_rfl) (by simp) ?_
        refine AllReadyH.cons rfl (fun K hK => ?_) AllReadyH.nil
        rw [if_pos (by rfl)]
        refine op_call 119 _ _ rfl (enters_of Try.func119 (by kernel_rfl) rfl) _ (HCH.out W61 hf1.1 hf1.2 hS.1.t (by omega) hc2) rfl ?_
        rintro e W42 ⟨hbn, g3, cap3, he3, hT3, hc3⟩
        obtain ⟨kk, hkk⟩ : ∃ kk, ((t1.chose s x).2 ++ us).length = kk := ⟨_, rfl⟩
        rw [hkk] at he3
        subst he3
        have HKK := Lib.hid hkk
        clear hkk
        refine ⟨_, rfl, ?_⟩
        refine hK.out _ _ ⟨hS.1.grown hbn, below_step hS.2 hbn⟩ (fun hS1 => ?_)
        replace HB := HB.grown hbn
        clear hK K hbn
        replace hS := hS1
        clear hS1
        try simp only [Act.put, List.getElem_toArray, List.getElem_cons_succ, List.getElem_cons_zero, List.setIfInBounds_toArray, List.set_cons_zero, List.set_cons_succ]
        refine wpAnyH_ready (rs := [5]) (by kernel_rfl) (by simp) ?_
        refine AllReadyH.cons rfl (fun K hK => ?_) AllReadyH.nil
        rw [if_pos (by rfl)]
        have HRE := HREX.out g3 cap3 W42 hT3 hc3
        rw [HKK.out] at HRE
        refine op_call 61 _ _ rfl (enters_of Try.func61 (by kernel_rfl) rfl) _ HRE rfl ?_
        rintro e W53 ⟨rfl, hbn⟩
        refine ⟨_, rfl, ?_⟩
        refine hK.out _ _ ⟨hS.1.grown hbn, below_step hS.2 hbn⟩ (fun hS1 => ?_)
        replace HB := HB.grown hbn
        clear hK K hbn HRE
        replace hS := hS1
        clear hS1
        try simp only [Act.put, List.getElem_toArray, List.getElem_cons_succ, List.getElem_cons_zero, List.setIfInBounds_toArray, List.set_cons_zero, List.set_cons_succ]
        refine wpAnyH_ready (rs := [7]) (by kernel_rfl) (by simp) ?_
        refine AllReadyH.cons rfl (fun K hK => ?_) AllReadyH.nil
        rw [if_pos (by rfl)]
        refine op_store_Blk _ _ _ rfl B rfl rfl HB sm_i rfl (by simp [Sm.cells, Value.oneCell']) ?_
        have hS6 := hS.1.setB (by omega) hol2 hgl hBl (Sm.mk p2 e2 a2 d2).cells
        refine hK.out _ _ ⟨hS6, below_setRow hS.2 hBl _⟩ (fun _ => ?_)
        clear hK K
        try simp only [Act.put, List.getElem_toArray, List.getElem_cons_succ, List.getElem_cons_zero, List.setIfInBounds_toArray, List.set_cons_zero, List.set_cons_succ]
        refine wpAnyH_done (by kernel_rfl) ?_ _
        have HB2 := HB.setRow (Sm.mk p2 e2 a2 d2).cells
        have hBne : B ≠ O := by omega
        clear hS HB
        generalize W53.setRow B (Sm.mk p2 e2 a2 d2).cells = W9 at *
        have HO6 := hS6.o
        have HO7 : Blk W9 O 76 #[.int .i64 (p1 : Nat), .int .i64 e1, .bool a1, .bool d1] := HO6
        obtain ⟨c0, c1, c2, c3⟩ := HO7.cell4
        obtain ⟨b0, b1, b2, b3⟩ := (show Blk W9 B 76 #[.int .i64 (p2 : Nat), .int .i64 e2, .bool a2, .bool d2] from HB2).cell4
        try simp only at c0 c1 c2 c3
        clear HB2
        have hlO := HO6.lt
        cases a1
        all_goals
          cases d1
          all_goals
            go_wp2_with (refine wp_store_Blk rfl _ _ _ rfl O rfl rfl HO6 sm_i rfl (by simp [Value.oneCell']) ?_)
            try simp only [Act.put]
            go_wp2_with fail
            go_roundw
            case rel =>
              refine ⟨k + 1, by omega, by go_num, hS6.a.setRowOther _ _ (by omega), hS6.z.setRowOther _ _ (by omega), ?_, ⟨fun j z hj => cell_kept (hS6.t.lies j z hj) (setRow_other _ _ _ _ (by have := hgO; omega))⟩, below_setRow hS6.b (by omega) _⟩
              rw [HTK.out]
              exact HO6.setRow _
            case measure => simp [intOf]; omega
    · have hke : k = TX.size := by omega
      have e1 : sumO ((t1.opts s).take k) F = sumO (t1.opts s) F := by rw [hke, HSZ.out, List.take_length]
      rw [e1] at HOO
      clear hke e1
      go_wp2_with (first
        | (refine wp_store_Blk rfl _ _ _ rfl (w.heap.size + 1) rfl rfl HZ sm_i rfl (by simp [Sm.cells, Value.oneCell']) ?_)
        | (refine wp_load_Blk rfl _ _ rfl O rfl HOO hu2 rfl sm_i ?_))
      exact ret_Blk rfl (w.heap.size + 1) rfl (HZ.setRow _) hu2 rfl sm_i rfl ⟨rfl, below_setRow H.b (by omega) _⟩
theorem spec_l6All (f : Nat) : ∀ (s : Nat) (hs : s < 4) (ts : List Ct) (hf : FitC ts) (hl : Flat ts) (h1 : tot ts < f) (h2 : tot ts ≤ 20) (g cap : Nat) (hcap : ts.length ≤ cap) (w : World) (hT : Todo w g ts),
    Calls Try.prog 61 #[.agg #[.slice (some ⟨g, 0, none⟩) ts.length cap, .int .i64 s]] w (SumEnd (allA f s ts) w) := by
  induction f with
  | zero => intro s hs ts hf hl h1; omega
  | succ f ih =>
    intro s hs ts hf hl h1 h2 g cap hcap w hT
    have hlen := len_tot ts
    have hfl := run_flat (s := s) (n := 200) hf hl (by omega)
    have hfr := fit_run0 (n := 200) (s := s) hf
    have hfr2 := fit_run (n := 200) (s := s) hf (by omega)
    have HR := fun (W : World) (hb : Below w.heap.size w W) => spec_l6Run 200 s hs ts hf (by omega) g cap hcap W (hT.grown hb)
    have hbd := all_bound (f + 1) s ts hf hl (by omega)
    obtain ⟨⟨m, us, e⟩, hR⟩ : ∃ r, r = run 200 s ts := ⟨_, rfl⟩
    rw [← hR] at hfl hfr hfr2 HR
    by_cases hp : e = .pick
    · subst hp
      obtain ⟨t1, u, rfl, hnx, hne, hm1, _⟩ := run_pick hR.symm
      have hal : allA (f + 1) s ts = _ := all_pick (f := f) (by rw [← hR])
      have hlt := hfl.1 t1 (by simp)
      have htt := hfl.2.1
      simp only [tot] at htt
      have hm := run_le0 200 s ts
      rw [← hR] at hm
      simp only at hm
      rw [hal]
      rw [hal] at hbd
      have h4 : (4 : Nat) ^ tot ts ≤ 4 ^ 20 := Nat.pow_le_pow_right (by omega) h2
      have h40 : (4 : Nat) ^ tot ts ≤ 1099511627776 := Nat.le_trans h4 (by decide)
      refine spec_allPick s hs ts g cap w t1 u (hfr t1 (by simp)) hnx hne (by have := hfr2.2; simp only [List.length_cons] at this; omega) _ (Nat.le_trans hbd h40) (fun W hb => (HR W hb).mono fun e w' h => ?_) (fun k hk g3 cap3 W hT3 hc3 => ?_)
      · obtain ⟨h5, g2, cap2, h6, h7, h8⟩ := h
        exact ⟨h5, g2, cap2, _, h6, h7, h8⟩
      · have hc := chose_flat (hfr t1 (by simp)).1 hlt s k
        have hq : tot ((t1.chose s k).2 ++ u) + 1 ≤ tot ts := by rw [tot_app]; omega
        exact ih _ (chose_lt hs hk) _ (fit_chose hfr s k).1 (hc.1.app hfl.1.tail) (by omega) (by omega) g3 cap3 hc3 W hT3
    · rw [all_leaf (by rw [← hR]) hp]
      refine spec_allLeaf e hp s hs ts g cap w (fun W hb => (HR W hb).mono fun e w' h => ?_)
      obtain ⟨h5, g2, cap2, h6, h7, h8⟩ := h
      exact ⟨h5, g2, cap2, _, _, h6⟩
end Go.Proofs.Ytihmdfhgkfgmnaa

/- SpQ -/
namespace Go.Proofs.Ytihmdfhgkfgmnaa
set_option linter.unusedVariables false
set_option linter.unusedSimpArgs false
open Go.RowKit Go.Shelf
set_option maxRecDepth 100000
set_option maxHeartbeats 4000000

def ltB (l : List UInt8) : ByteArray := ⟨l.toArray⟩
theorem ltB_app (a b : List UInt8) : ltB a ++ ltB b = ltB (a ++ b) := by
  apply ByteArray.ext; apply Array.ext'
  simp [ltB, ByteArray.data_append]
theorem ltB_size (l : List UInt8) : (ltB l).size = l.length := by simp [ltB, ByteArray.size]
theorem bt_ltB (l : List UInt8) (j : Nat) (hj : j < l.length) : bt (ltB l) j = l[j] := by
  simp [bt, ltB, List.getD_eq_getElem?_getD, hj]
theorem find_mem (l : List UInt8) (c : UInt8) : decide (0 ≤ firstIdx (ltB l) c) = decide (c ∈ l) := by
  rw [Bool.eq_iff_iff, decide_eq_true_iff, decide_eq_true_iff]
  constructor
  · intro h
    refine Classical.byContradiction fun hn => ?_
    have : firstIdx (ltB l) c = -1 := firstIdx_none _ _ fun j hj e => hn ?_
    · omega
    · rw [ltB_size] at hj
      rw [bt_ltB l j hj] at e
      exact e ▸ List.getElem_mem hj
  · intro h
    obtain ⟨j, hj, e2⟩ := List.getElem_of_mem h
    refine Classical.byContradiction fun hn => ?_
    unfold firstIdx at hn
    cases hf : (List.range (ltB l).size).find? (fun i => (ltB l)[i]! == c) with
    | some i => rw [hf] at hn; exact hn (Int.natCast_nonneg i)
    | none =>
      rw [List.find?_eq_none] at hf
      refine hf j (by rw [ltB_size]; simpa using hj) ?_
      have hs : j < (ltB l).size := by rw [ltB_size]; exact hj
      rw [getElem!_pos (ltB l) j hs, bt_get (ltB l) j hs, bt_ltB l j hj, e2]
      simp
def Ct.letters : Ct → List UInt8
  | n0 o _ => [o]
  | n1 o _ x => o :: x.letters
  | n2 o _ x y => o :: (x.letters ++ y.letters)
def letL : List Ct → List UInt8
  | [] => []
  | x :: l => x.letters ++ letL l
theorem letL_app (l m : List Ct) : letL (l ++ m) = letL l ++ letL m := by
  induction l with
  | nil => rfl
  | cons x l ih => simp [letL, ih]
theorem Ct.letters_parts (t : Ct) : t.letters = t.op :: letL t.parts := by cases t <;> simp [letters, op, parts, letL]
theorem Ct.letters_len : ∀ t : Ct, t.letters.length = t.num
  | .n0 o d => rfl
  | .n1 o d x => by simp only [letters, num, List.length_cons, letters_len x]; omega
  | .n2 o d x y => by simp only [letters, num, List.length_cons, List.length_append, letters_len x, letters_len y]; omega
theorem Ct.letters_knows (p : UInt8 → Bool) : ∀ t : Ct, t.letters.all p = t.knows p
  | .n0 o d => by simp [letters, knows]
  | .n1 o d x => by simp [letters, knows, ← letters_knows p x]
  | .n2 o d x y => by simp [letters, knows, ← letters_knows p x, ← letters_knows p y]
theorem letL_take (l : List Ct) (k : Nat) (x : Ct) (h : l[k]? = some x) : letL (l.take (k + 1)) = letL (l.take k) ++ x.letters := by
  obtain ⟨hk, rfl⟩ := List.getElem?_eq_some_iff.1 h
  rw [List.take_succ_eq_append_getElem hk, letL_app]
  simp [letL]
theorem letL_le (l : List Ct) (k : Nat) : (letL (l.take k)).length ≤ (letL l).length := by
  have h := congrArg List.length (letL_app (l.take k) (l.drop k))
  rw [List.take_append_drop, List.length_append] at h
  omega
theorem head_extract (t : Ct) : t.text.extract 0 1 = ltB [t.op] := by
  obtain ⟨r, e⟩ := t.bytes_head
  apply ByteArray.ext; apply Array.ext'
  simp [Ct.text, ltB, e]
def LetS (t : Ct) : Prop := ∀ w : World, Calls Try.prog 147 #[.string t.text] w fun e w' => e = .returned (.string (ltB t.letters)) ∧ Below w.heap.size w w'
theorem spec_lets (t : Ct) (ht : t.WF) (hl : t.len ≤ 200) (ih : ∀ z ∈ t.parts, LetS z) : LetS t := by
  intro w
  have HX := Lib.hid (head_extract t)
  have hsz : 1 ≤ t.text.size := by rw [t.text_size]; exact t.len_pos
  have HP := Lib.hid (spec_l5Parts t ht hl w)
  have HLP := Lib.hid t.letters_parts
  have hpl := t.parts_le
  have hln : (letL t.parts).length ≤ 200 := by
    have h1 := t.letters_len
    have h2 := t.num_le
    rw [t.letters_parts] at h1
    simp only [List.length_cons] at h1
    omega
  have HIH := Lib.hid ih
  have hsz2 : ((t.text.size : Int)) ≤ 200 := by rw [t.text_size]; omega
  clear ih ht hl
  generalize t.text = T at *
  go_enter Try.func147, Try.ntmps147
  go_wp2_with fail
  refine HP.out.mono ?_
  rintro e w1 ⟨⟨g, cap, rfl, hT⟩, hb⟩
  rw [HX.out]
  go_wp2_with fail
  go_loopw [3, 5] (fun o i wr => ∃ k : Nat, k ≤ t.parts.length ∧ i = .int .i64 k ∧ o = .string (ltB (t.op :: letL (t.parts.take k))) ∧ TextsAt wr g t.parts ∧ Below w.heap.size w wr) (fun _ i _ => t.parts.length - (intOf i).toNat)
  case atStart => exact ⟨0, by omega, rfl, rfl, hT, hb⟩
  case round =>
    clear hT hb
    obtain ⟨k, hk, rfl, rfl, hT, hb⟩ := hrel
    by_cases hlt : k < t.parts.length
    · have hki : (k : Int) < (t.parts.length : Nat) := by omega
      obtain ⟨x, hx⟩ : ∃ x, t.parts[k]? = some x := ⟨t.parts[k], by simp [hlt]⟩
      have hc : wr.cell? ⟨g, k, none⟩ = some (.string x.text) := hT k x hx
      have HI := HIH.out x (List.mem_of_getElem? hx)
      have HTK := Lib.hid (letL_take t.parts k x hx)
      have hle := letL_le t.parts (k + 1)
      rw [HTK.out, List.length_append] at hle
      have hs1 := ltB_size (t.op :: letL (t.parts.take k))
      have hs2 := ltB_size x.letters
      simp only [List.length_cons] at hs1
      have HA := Lib.hid (ltB_app (t.op :: letL (t.parts.take k)) x.letters)
      have hq1 : (ltB (t.op :: letL (t.parts.take k))).size ≤ 201 := by omega
      have hq2 : (ltB x.letters).size ≤ 201 := by omega
      clear hx hle hs1 hs2
      generalize hA1 : ltB (t.op :: letL (t.parts.take k)) = A1 at *
      clear hA1
      go_wp2_with fail
      refine (HI _).mono ?_
      rintro e w2 ⟨rfl, hb2⟩
      go_wp2_with fail
      go_roundw
      case rel => exact ⟨k + 1, by omega, by go_num, by rw [HTK.out, HA.out]; rfl, hT.grown hb2, below_step hb hb2⟩
      case measure => simp [intOf]; omega
    · have hke : k = t.parts.length := by omega
      have HE : Hid (t.op :: letL (t.parts.take k) = t.letters) := by show _ = _; rw [hke, List.take_length, HLP.out]
      clear hke
      rw [HE.out]
      go_wp2_with fail
      go_ret
      exact ⟨rfl, hb⟩
theorem spec_lets_n (n : Nat) : ∀ t : Ct, t.len ≤ n → t.WF → t.len ≤ 200 → LetS t := by
  induction n with
  | zero => intro t h; have := t.len_pos; omega
  | succ n ih => intro t h ht hl; exact spec_lets t ht hl fun z hz => ih z (by have := Ct.len_part hz; omega) (Ct.parts_wf ht z hz) (by have := Ct.len_part hz; omega)
theorem spec_l5Letters (t : Ct) (ht : t.WF) (hl : t.len ≤ 200) : LetS t := spec_lets_n t.len t (Nat.le_refl _) ht hl
/-- has a text one of some letters? -/
def anyIn (s L : ByteArray) (n : Nat) : Bool := (List.range n).any fun j => decide (0 ≤ firstIdx s (bt L j))
theorem anyIn_succ (s L : ByteArray) (n : Nat) : anyIn s L (n + 1) = (anyIn s L n || decide (0 ≤ firstIdx s (bt L n))) := by simp [anyIn, List.range_succ]
theorem anyIn_of {s L : ByteArray} {k n : Nat} (h : decide (0 ≤ firstIdx s (bt L k)) = true) (hk : k < n) : anyIn s L n = true := by
  unfold anyIn; rw [List.any_eq_true]; exact ⟨k, by simpa using hk, h⟩
theorem spec_l5Any (s L : ByteArray) (hs : s.size ≤ 4294967296) (hL : L.size ≤ 1000) (w : World) : Calls Try.prog 146 #[.string s, .string L] w fun e w' => e = .returned (.bool (anyIn s L L.size)) ∧ w = w' := by
  go_enter Try.func146, Try.ntmps146
  go_wp2_with fail
  go_loop [5] (fun i => ∃ k : Nat, k ≤ L.size ∧ i = .int .i64 k ∧ Hid (anyIn s L k = false)) (fun i => L.size - (intOf i).toNat)
  case atStart => exact ⟨0, by omega, rfl, rfl⟩
  case round =>
    obtain ⟨k, hk, rfl, H⟩ := hrel
    by_cases hlt : k < L.size
    · have HS := Lib.hid (anyIn_succ s L k)
      cases hd : decide (0 ≤ firstIdx s (bt L k))
      · have hn : ¬ 0 ≤ firstIdx s (bt L k) := by simpa using hd
        have H2 : Hid (anyIn s L (k + 1) = false) := by show _ = _; rw [HS.out, H.out, hd]; rfl
        clear hd
        go_wp2_with fail
        refine (spec_l14Find _ _ _ hs).mono ?_
        rintro e w' ⟨rfl, rfl⟩
        go_wp2_with fail
        go_round
        case rel => exact ⟨k + 1, by omega, by go_num, H2⟩
        case measure => simp [intOf]; omega
      · have hn : 0 ≤ firstIdx s (bt L k) := by simpa using hd
        have H2 := Lib.hid (anyIn_of hd hlt)
        clear hd
        go_wp2_with fail
        refine (spec_l14Find _ _ _ hs).mono ?_
        rintro e w' ⟨rfl, rfl⟩
        go_wp2_with fail
        go_ret
        rw [H2.out]
        exact ⟨rfl, rfl⟩
    · obtain rfl : k = L.size := by omega
      go_wp2_with fail
      go_ret
      rw [H.out]
      exact ⟨rfl, rfl⟩
def loopW : ByteArray := ⟨#[119, 42, 43]⟩
theorem any_loop (t : Ct) : anyIn (ltB t.letters) loopW loopW.size = !t.flat := by
  have h : anyIn (ltB t.letters) loopW loopW.size = (decide ((119 : UInt8) ∈ t.letters) || decide ((42 : UInt8) ∈ t.letters) || decide ((43 : UInt8) ∈ t.letters)) := by
    rw [← find_mem, ← find_mem, ← find_mem]
    have h3 : loopW.size = 3 := rfl
    rw [h3]
    simp [anyIn, List.range_succ, bt, loopW, Bool.or_assoc]
  rw [h]
  unfold Ct.flat
  rw [← Ct.letters_knows]
  rw [Bool.eq_iff_iff]
  simp only [Bool.or_eq_true, decide_eq_true_eq, Bool.not_eq_true', List.all_eq_false, nlp, Bool.not_eq_true', Bool.not_eq_false', Bool.not_not, beq_iff_eq]
  constructor
  · rintro ((h | h) | h)
    · exact ⟨119, h, by simp⟩
    · exact ⟨42, h, by simp⟩
    · exact ⟨43, h, by simp⟩
  · rintro ⟨x, hx, h⟩
    by_cases h1 : x = 119
    · subst h1; exact .inl (.inl hx)
    · by_cases h2 : x = 42
      · subst h2; exact .inl (.inr hx)
      · simp [h1, h2] at h
        subst h; exact .inr hx
theorem spec_HasLoops (t : Ct) (ht : t.WF) (hl : t.len ≤ 200) (w : World) : Calls Try.prog 125 #[.string t.text] w fun e w' => e = .returned (.bool (!t.flat)) ∧ Below w.heap.size w w' := by
  have H : Hid (isCt t.text = true) := isCt_txt ht hl
  have HA := Lib.hid (any_loop t)
  have hq : (ltB t.letters).size ≤ 4294967296 := by rw [ltB_size, t.letters_len]; have := t.num_le; omega
  have hc : t.text.size ≤ 4611686018427387904 := by rw [t.text_size]; omega
  go_enter Try.func125, Try.ntmps125
  go_wp2_with fail
  refine (spec_ContractValid _ _ hc).mono ?_
  rintro e w' ⟨rfl, rfl⟩
  rw [H.out]
  go_wp2_with fail
  refine (spec_l5Letters t ht hl _).mono ?_
  rintro e w1 ⟨rfl, hb1⟩
  go_wp2_with fail
  refine (spec_l5Any _ loopW hq (by decide) _).mono ?_
  rintro e w' ⟨rfl, rfl⟩
  rw [HA.out]
  go_wp2_with fail
  go_ret
  exact ⟨rfl, hb1⟩
theorem spec_SizeOfContract (t : Ct) (ht : t.WF) (hl : t.len ≤ 200) (w : World) : Calls Try.prog 126 #[.string t.text] w fun e w' => e = .returned (.int .i64 (t.num : Nat)) ∧ Below w.heap.size w w' := by
  have H : Hid (isCt t.text = true) := isCt_txt ht hl
  have HZ : Hid ((ltB t.letters).size = t.num) := by show _ = _; rw [ltB_size, t.letters_len]
  have hc : t.text.size ≤ 4611686018427387904 := by rw [t.text_size]; omega
  go_enter Try.func126, Try.ntmps126
  go_wp2_with fail
  refine (spec_ContractValid _ _ hc).mono ?_
  rintro e w' ⟨rfl, rfl⟩
  rw [H.out]
  go_wp2_with fail
  refine (spec_l5Letters t ht hl _).mono ?_
  rintro e w1 ⟨rfl, hb1⟩
  generalize ltB t.letters = A at *
  go_wp2_with fail
  go_ret
  exact ⟨ret_int (by rw [HZ.out]), hb1⟩
/-- contracts with few plays -/
def smallC (t : Ct) (s : Int) : Bool := stOk s && t.flat && decide (t.num ≤ 10)
theorem spec_l6Small_no (c : ByteArray) (s : Int) (w : World) (hc : c.size ≤ 4611686018427387904) (h : (isCt c && stOk s) = false) : Calls Try.prog 60 #[.string c, .int .i64 s] w fun e w' => e = .returned (.bool false) ∧ w = w' := by
  have H := Lib.hid h
  clear h
  go_enter Try.func60, Try.ntmps60
  go_wp2_with fail
  refine (spec_l6Ready _ _ _ hc).mono ?_
  rintro e w' ⟨rfl, rfl⟩
  rw [H.out]
  go_wp2_with fail
  go_ret
  exact ⟨rfl, rfl⟩
theorem spec_l6Small (t : Ct) (ht : t.WF) (hl : t.len ≤ 200) (s : Nat) (hs : s < 4) (w : World) : Calls Try.prog 60 #[.string t.text, .int .i64 s] w fun e w' => e = .returned (.bool (t.flat && decide (t.num ≤ 10))) ∧ Below w.heap.size w w' := by
  have H : Hid ((isCt t.text && stOk (s : Int)) = true) := by show _ = _; rw [isCt_txt ht hl, stOk_of hs]; rfl
  have hc : t.text.size ≤ 4611686018427387904 := by rw [t.text_size]; omega
  cases hf : t.flat
  · have HF := Lib.hid hf
    clear hf
    go_enter Try.func60, Try.ntmps60
    go_wp2_with fail
    refine (spec_l6Ready _ _ _ hc).mono ?_
    rintro e w' ⟨rfl, rfl⟩
    rw [H.out]
    go_wp2_with fail
    refine (spec_HasLoops t ht hl _).mono ?_
    rintro e w1 ⟨rfl, hb1⟩
    rw [HF.out]
    go_wp2_with fail
    go_ret
    exact ⟨rfl, hb1⟩
  · have HF := Lib.hid hf
    clear hf
    have hd : decide ((t.num : Int) ≤ 10) = decide (t.num ≤ 10) := by rw [Bool.eq_iff_iff, decide_eq_true_iff, decide_eq_true_iff]; omega
    have HD := Lib.hid hd
    clear hd
    go_enter Try.func60, Try.ntmps60
    go_wp2_with fail
    refine (spec_l6Ready _ _ _ hc).mono ?_
    rintro e w' ⟨rfl, rfl⟩
    rw [H.out]
    go_wp2_with fail
    refine (spec_HasLoops t ht hl _).mono ?_
    rintro e w1 ⟨rfl, hb1⟩
    rw [HF.out]
    go_wp2_with fail
    refine (spec_SizeOfContract t ht hl _).mono ?_
    rintro e w2 ⟨rfl, hb2⟩
    go_wp2_with fail
    go_ret
    exact ⟨ret_bool (by rw [← HD.out]; simp), below_step hb1 hb2⟩
end Go.Proofs.Ytihmdfhgkfgmnaa

/- SpQ2 -/
namespace Go.Proofs.Ytihmdfhgkfgmnaa
set_option linter.unusedVariables false
set_option linter.unusedSimpArgs false
open Go.RowKit Go.Shelf
set_option maxRecDepth 100000
set_option maxHeartbeats 4000000

theorem field0_sum (x y z u : Value) (w : World) : (Instr.field 76 (.agg #[x, y, z, u]) 0).run Try.prog w = .ok x w := by
  have hp : (part 3 #[x, y, z, u] 0).run Try.prog w = .ok x w := run_part_plain w (by kernel_rfl) rfl
  unfold Instr.field
  simp [Sem.run_bind, run_underlying Try.underlying76, asAgg, hp]
/-- what all plays of a small contract come to -/
def Ct.all (t : Ct) (s : Nat) : Sm := allA 11 s [t]
theorem all_spec (t : Ct) (ht : t.WF) (hl : t.len ≤ 200) (hf : t.flat = true) (hn : t.num ≤ 10) (s : Nat) (hs : s < 4) (w : World) (g cap : Nat) (hc : w.cell? ⟨g, 0, none⟩ = some (.string t.text)) (hcap : 1 ≤ cap) :
    Calls Try.prog 61 #[.agg #[.slice (some ⟨g, 0, none⟩) 1 cap, .int .i64 s]] w (SumEnd (t.all s) w) :=
  spec_l6All 11 s hs [t] (fit_one ht hl) (fun x hx => by simp at hx; subst hx; exact hf) (by simp [tot]; omega) (by simp [tot]; omega) g cap hcap w ⟨fun j x hj => by
    match j, hj with
    | 0, hj => simp at hj; subst hj; exact hc
    | j + 1, hj => simp at hj⟩
theorem spec_CountPlays_no (c : ByteArray) (s : Int) (w : World) (hc : c.size ≤ 4611686018427387904) (h : (isCt c && stOk s) = false) : Calls Try.prog 20 #[.string c, .int .i64 s] w fun e w' => e = .returned (.int .i64 (-1)) ∧ w = w' := by
  go_enter Try.func20, Try.ntmps20
  go_wp2_with fail
  refine (spec_l6Small_no c s _ hc h).mono ?_
  rintro e w' ⟨rfl, rfl⟩
  go_wp2_with fail
  go_ret
  exact ⟨rfl, rfl⟩
theorem spec_CountPlays_big (t : Ct) (ht : t.WF) (hl : t.len ≤ 200) (s : Nat) (hs : s < 4) (w : World) (h : (t.flat && decide (t.num ≤ 10)) = false) : Calls Try.prog 20 #[.string t.text, .int .i64 s] w fun e w' => e = .returned (.int .i64 (-1)) ∧ Below w.heap.size w w' := by
  have H := Lib.hid h
  clear h
  go_enter Try.func20, Try.ntmps20
  go_wp2_with fail
  refine (spec_l6Small t ht hl s hs _).mono ?_
  rintro e w1 ⟨rfl, hb1⟩
  rw [H.out]
  go_wp2_with fail
  go_ret
  exact ⟨rfl, hb1⟩
theorem spec_CountPlays_yes (t : Ct) (ht : t.WF) (hl : t.len ≤ 200) (s : Nat) (hs : s < 4) (w : World) (hf : t.flat = true) (hn : t.num ≤ 10) : Calls Try.prog 20 #[.string t.text, .int .i64 s] w fun e w' => e = .returned (.int .i64 ((t.all s).plays : Nat)) ∧ Below w.heap.size w w' := by
  have H : Hid ((t.flat && decide (t.num ≤ 10)) = true) := by show _ = _; rw [hf]; simp [hn]
  have HA := Lib.hid (all_spec t ht hl hf hn s hs)
  clear hf hn
  go_enter Try.func20, Try.ntmps20
  go_wp2_with fail
  refine (spec_l6Small t ht hl s hs _).mono ?_
  rintro e w1 ⟨rfl, hb1⟩
  rw [H.out]
  go_wp2_with fail
  refine (HA.out _ _ 1 (by rw [cell_of_row _ _ 0 _ _ _ (heap_alloc_new w1 _)]; rfl) (Nat.le_refl _)).mono ?_
  rintro e w2 ⟨rfl, hb2⟩
  rw [show (t.all s).cells = #[.int .i64 ((t.all s).plays : Nat), .int .i64 (t.all s).ends, .bool (t.all s).angel, .bool (t.all s).demon] from rfl]
  have hfd := field0_sum (.int .i64 ((t.all s).plays : Nat)) (.int .i64 (t.all s).ends) (.bool (t.all s).angel) (.bool (t.all s).demon) w2
  go_wp2_with fail
  go_ret
  exact ⟨rfl, below_step (below_new hb1 _) hb2⟩
theorem spec_OutcomesOf_no (c : ByteArray) (s : Int) (w : World) (hc : c.size ≤ 4611686018427387904) (h : (isCt c && stOk s) = false) : Calls Try.prog 22 #[.string c, .int .i64 s] w fun e w' => e = .returned (.tuple #[.int .i64 (-1), .bool false, .bool false]) ∧ w = w' := by
  go_enter Try.func22, Try.ntmps22
  go_wp2_with fail
  refine (spec_l6Small_no c s _ hc h).mono ?_
  rintro e w' ⟨rfl, rfl⟩
  go_wp2_with fail
  go_ret3
  exact ⟨rfl, rfl⟩
theorem spec_OutcomesOf_big (t : Ct) (ht : t.WF) (hl : t.len ≤ 200) (s : Nat) (hs : s < 4) (w : World) (h : (t.flat && decide (t.num ≤ 10)) = false) : Calls Try.prog 22 #[.string t.text, .int .i64 s] w fun e w' => e = .returned (.tuple #[.int .i64 (-1), .bool false, .bool false]) ∧ Below w.heap.size w w' := by
  have H := Lib.hid h
  clear h
  go_enter Try.func22, Try.ntmps22
  go_wp2_with fail
  refine (spec_l6Small t ht hl s hs _).mono ?_
  rintro e w1 ⟨rfl, hb1⟩
  rw [H.out]
  go_wp2_with fail
  go_ret3
  exact ⟨rfl, hb1⟩
theorem spec_OutcomesOf_yes (t : Ct) (ht : t.WF) (hl : t.len ≤ 200) (s : Nat) (hs : s < 4) (w : World) (hf : t.flat = true) (hn : t.num ≤ 10) : Calls Try.prog 22 #[.string t.text, .int .i64 s] w fun e w' => e = .returned (.tuple #[.int .i64 (t.all s).ends, .bool (t.all s).angel, .bool (t.all s).demon]) ∧ Below w.heap.size w w' := by
  have H : Hid ((t.flat && decide (t.num ≤ 10)) = true) := by show _ = _; rw [hf]; simp [hn]
  have HA := Lib.hid (all_spec t ht hl hf hn s hs)
  clear hf hn
  go_enter Try.func22, Try.ntmps22
  go_wp2_with fail
  refine (spec_l6Small t ht hl s hs _).mono ?_
  rintro e w1 ⟨rfl, hb1⟩
  rw [H.out]
  go_wp2_with fail
  refine (HA.out _ _ 1 (by rw [cell_of_row _ _ 0 _ _ _ (heap_alloc_new w1 _)]; rfl) (Nat.le_refl _)).mono ?_
  rintro e w2 ⟨rfl, hb2⟩
  rw [show (t.all s).cells = #[.int .i64 ((t.all s).plays : Nat), .int .i64 (t.all s).ends, .bool (t.all s).angel, .bool (t.all s).demon] from rfl]
  go_wp2_with fail
  go_region
  go_wp2_with fail
  go_ret3
  exact ⟨rfl, (below_new (below_step (below_new hb1 _) hb2) _).drew⟩
end Go.Proofs.Ytihmdfhgkfgmnaa

/- ImQ -/
namespace Go.Proofs.Ytihmdfhgkfgmnaa
set_option linter.unusedVariables false
set_option linter.unusedSimpArgs false
open Go.RowKit Go.Shelf
set_option maxRecDepth 100000
set_option maxHeartbeats 10000000

theorem tl_u : ∃ fs, Try.prog.underlying 79 = some (.struct fs) := ⟨_, Try.underlying79⟩
theorem tl_i : (Try.prog.info? 79).map (·.size) = some 4 := by kernel_rfl
def Sm.cel (a : Sm) : Array Value := #[.int .i64 (a.plays : Nat), .int .i64 a.ends, .bool a.angel, .bool a.demon]
theorem gb_of {w w' : World} {tb : Nat} (h : Below w.heap.size w w') : w.grownBy w' (some tb) := World.grownBy.but (grown_of h) _
theorem gb_set {w : World} {tb : Nat} (i : Nat) (v : Value) : w.grownBy (w.setCell ⟨tb, i, none⟩ v) (some tb) :=
  ⟨rfl, rfl, rfl, by simp, fun k hk hne => heap_setCell_other w ⟨tb, i, none⟩ k v (fun e => hne (by rw [e]))⟩
theorem Blk.gb {w w' : World} {b tb : Nat} {t : TypeId} {c : Array Value} (h : Blk w b t c) (hg : w.grownBy w' (some tb)) (hne : b ≠ tb) : Blk w' b t c := ⟨(hg.block b h.lt (by simpa using hne)).trans h.eq⟩
theorem Ints.gb {w w' : World} {g tb : Nat} {l : List Nat} (h : Ints w g l) (hg : w.grownBy w' (some tb)) (hne : g ≠ tb) : Ints w' g l := ⟨fun j v hj => by
  have hc := h.lies j v hj
  exact cell_kept hc (hg.block g (block_lt_of_cell hc) (by simpa using hne))⟩
theorem AtP.gb {w w' : World} {S : Nat → Prop} {ts : List Ct} {g cap tb : Nat} {T : TypeId} {x y : Int} {p q : Bool} (h : AtP w S ts g cap) (hg : w.grownBy w' (some tb)) (hB : Blk w tb T #[.int .i64 x, .int .i64 y, .bool p, .bool q]) (hS : ¬ S tb) : AtP w' S ts g cap := by
  obtain ⟨bs, h1, h2, h3⟩ := h
  refine ⟨bs, ⟨fun j b hj => ?_⟩, h2.map (fun t c h => Tree.kept (fun k hk hl => hg.block k hl (by simp; rintro rfl; exact hS hk)) t c h), h3⟩
  have hc := h1.lies j b hj
  refine cell_kept hc (hg.block g (block_lt_of_cell hc) ?_)
  simp only [ne_eq, Option.some.injEq]
  rintro rfl
  rw [cell_of_row _ _ j _ _ _ hB.eq] at hc
  match j, hc with
  | 0, hc => simp [ptr] at hc
  | 1, hc => simp [ptr] at hc
  | 2, hc => simp [ptr] at hc
  | 3, hc => simp [ptr] at hc
  | j + 4, hc => simp at hc
theorem Blk.s0 {w : World} {b : Nat} {t : TypeId} {x y z u : Value} (h : Blk w b t #[x, y, z, u]) (v : Value) : Blk (w.setCell ⟨b, 0, none⟩ v) b t #[v, y, z, u] := ⟨by rw [heap_setCell_same w b 0 _ _ _ h.eq]; rfl⟩
theorem Blk.s1 {w : World} {b : Nat} {t : TypeId} {x y z u : Value} (h : Blk w b t #[x, y, z, u]) (v : Value) : Blk (w.setCell ⟨b, 1, none⟩ v) b t #[x, v, z, u] := ⟨by rw [heap_setCell_same w b 1 _ _ _ h.eq]; rfl⟩
theorem Blk.s2 {w : World} {b : Nat} {t : TypeId} {x y z u : Value} (h : Blk w b t #[x, y, z, u]) (v : Value) : Blk (w.setCell ⟨b, 2, none⟩ v) b t #[x, y, v, u] := ⟨by rw [heap_setCell_same w b 2 _ _ _ h.eq]; rfl⟩
theorem Blk.s3 {w : World} {b : Nat} {t : TypeId} {x y z u : Value} (h : Blk w b t #[x, y, z, u]) (v : Value) : Blk (w.setCell ⟨b, 3, none⟩ v) b t #[x, y, z, v] := ⟨by rw [heap_setCell_same w b 3 _ _ _ h.eq]; rfl⟩
def WalkEnd (tb : Nat) (a : Sm) (w : World) (e : Ending) (w' : World) : Prop := e = .returned (.tuple #[]) ∧ w.grownBy w' (some tb) ∧ Blk w' tb 79 a.cel
theorem add_leaf_done (acc : Sm) (s : Nat) : acc.add (leafS .done s) = ⟨acc.plays + 1, bits .or .i64 acc.ends (sh s), acc.angel, acc.demon⟩ := by simp [Sm.add, leafS]
theorem add_leaf_angel (acc : Sm) (s : Nat) (ha : C acc.ends) : acc.add (leafS (.broke true) s) = ⟨acc.plays + 1, acc.ends, true, acc.demon⟩ := by simp [Sm.add, leafS, or_zeroC ha]
theorem add_leaf_demon (acc : Sm) (s : Nat) (ha : C acc.ends) : acc.add (leafS (.broke false) s) = ⟨acc.plays + 1, acc.ends, acc.angel, true⟩ := by simp [Sm.add, leafS, or_zeroC ha]
/-- an end is counted -/
theorem impl_walkLeaf (tb : Nat) (acc : Sm) (hp : acc.plays ≤ 4398046511104) (ha : C acc.ends) (f : Fin) (hf : f ≠ .pick) (hf2 : f ≠ .long) (s : Nat) (hs : s < 4) (g cap l : Nat) (n : Int) (w : World) (hB : Blk w tb 79 acc.cel)
    (HR : ∀ W, Below w.heap.size w W → Calls Try.prog 121 #[.agg #[.int .i64 s, .slice (some ⟨g, 0, none⟩) l cap, .int .i64 n]] W fun e w' => Below W.heap.size W w' ∧ ∃ g2 cap2 l2 n2, e = .returned (.tuple #[.agg #[.int .i64 s, .slice (some ⟨g2, 0, none⟩) l2 cap2, .int .i64 n2], .string ⟨#[]⟩, .string (fwE f)])) :
    Calls Try.prog 127 #[.pointer (some ⟨tb, 0, none⟩), .agg #[.int .i64 s, .slice (some ⟨g, 0, none⟩) l cap, .int .i64 n]] w (WalkEnd tb (acc.add (leafS f s)) w) := by
  obtain ⟨fs, hu⟩ := pl_u
  have hb0 := below_new (Below.refl w.heap.size w) (Obj.cells #[.int .i64 s, .slice (some ⟨g, 0, none⟩) l cap, .int .i64 n] 69)
  have BX := Blk.new w 69 #[.int .i64 s, .slice (some ⟨g, 0, none⟩) l cap, .int .i64 n]
  have HR2 := HR _ hb0
  have hBA := hB.grown hb0
  clear HR
  obtain ⟨p1, e1, a1, d1⟩ := acc
  simp only at hp ha
  go_enter Try.func127, Try.ntmps127
  go_wp2_with (refine wp_load_Blk rfl _ _ rfl w.heap.size rfl BX hu rfl pl_i ?_)
  refine HR2.mono ?_
  rintro e w1 ⟨hb1, g2, cap2, l2, n2, rfl⟩
  have hb := below_new (below_step hb0 hb1) (Obj.cells #[.int .i64 s, .slice (some ⟨g2, 0, none⟩) l2 cap2, .int .i64 n2] 69)
  have BY := Blk.new w1 69 #[.int .i64 s, .slice (some ⟨g2, 0, none⟩) l2 cap2, .int .i64 n2]
  have hB1 := (hBA.grown hb1).old (Obj.cells #[.int .i64 s, .slice (some ⟨g2, 0, none⟩) l2 cap2, .int .i64 n2] 69)
  have hlt := (hBA.grown hb1).lt
  clear HR2
  have hc0 := (show Blk _ tb 79 #[.int .i64 (p1 : Nat), .int .i64 e1, .bool a1, .bool d1] from hB1).cell4
  obtain ⟨c0, c1, c2, c3⟩ := hc0
  have f0 := hB1.free 0
  have hB2 := ((show Blk w1 tb 79 #[.int .i64 (p1 : Nat), .int .i64 e1, .bool a1, .bool d1] from hBA.grown hb1).s0 (.int .i64 ((p1 : Int) + 1))).old (Obj.cells #[.int .i64 s, .slice (some ⟨g2, 0, none⟩) l2 cap2, .int .i64 n2] 69)
  have BY2 := Blk.newAt (w1.setCell ⟨tb, 0, none⟩ (.int .i64 ((p1 : Int) + 1))) 69 #[.int .i64 s, .slice (some ⟨g2, 0, none⟩) l2 cap2, .int .i64 n2] w1.heap.size (by simp)
  have hg2 := ((gb_of (tb := tb) (below_step hb0 hb1)).trans (gb_set (tb := tb) 0 (.int .i64 ((p1 : Int) + 1)))).trans (gb_of (tb := tb) (below_new (Below.refl _ _) (Obj.cells #[.int .i64 s, .slice (some ⟨g2, 0, none⟩) l2 cap2, .int .i64 n2] 69)))
  have hc20 := BY2.cell3.1
  obtain ⟨k0, k1, k2, k3⟩ := hB2.cell4
  have fr := fun i => hB2.free i
  have fr1 := fr 1
  have fr2 := fr 2
  have fr3 := fr 3
  clear fr
  cases f with
  | pick => exact absurd rfl hf
  | long => exact absurd rfl hf2
  | done =>
    have HS := Lib.hid (add_leaf_done ⟨p1, e1, a1, d1⟩ s)
    rw [show fwE .done = ⟨#[100, 111, 110, 101]⟩ from rfl]
    go_wp2_with (refine wp_store_BlkNew rfl _ _ _ rfl rfl rfl pl_i rfl (by simp [Value.oneCell']) ?_)
    generalize (w1.setCell ⟨tb, 0, none⟩ (.int .i64 ((p1 : Int) + 1))).alloc (Obj.cells #[.int .i64 s, .slice (some ⟨g2, 0, none⟩) l2 cap2, .int .i64 n2] 69) = W2 at *
    have kd1 : W2.drew.cell? ⟨tb, 1, none⟩ = some (.int .i64 e1) := k1
    have kd2 : W2.drew.cell? ⟨w1.heap.size, 0, none⟩ = some (.int .i64 s) := hc20
    have kd3 : W2.drew.frozen? ⟨tb, 1, none⟩ = false := fr1
    refine wp_region_still_tail 10 (by kernel_rfl) (by kernel_rfl) ?_
    simp only [List.take_succ_cons, List.take_zero, List.drop_succ_cons, List.drop_zero]
    repeat still_step
    try refine wpStill_nil ?_
    change wpList _ _ _ _ _ W2.drew
    go_wp2_with fail
    go_end0
    refine ⟨rfl, ?_, ?_⟩
    · exact (hg2.trans (gb_set (tb := tb) 1 _)).trans (gb_of (Below.refl _ _).drew)
    · rw [HS.out]
      exact (hB2.s1 (.int .i64 (bits .or .i64 e1 (wrap64 (2 ^ s))))).drew
  | broke a =>
    cases a
    · have HS := Lib.hid (add_leaf_demon ⟨p1, e1, a1, d1⟩ s ha)
      rw [show fwE (.broke false) = ⟨#[100, 101, 109, 111, 110]⟩ from rfl]
      go_wp2_with (refine wp_store_BlkNew rfl _ _ _ rfl rfl rfl pl_i rfl (by simp [Value.oneCell']) ?_)
      go_end0
      refine ⟨rfl, ?_, ?_⟩
      · exact (((gb_of (tb := tb) (below_step hb0 hb1)).trans (gb_set (tb := tb) 0 (.int .i64 ((p1 : Int) + 1)))).trans (gb_set (tb := tb) 3 (.bool true))).trans (gb_of (tb := tb) (below_new (Below.refl _ _) (Obj.cells #[.int .i64 s, .slice (some ⟨g2, 0, none⟩) l2 cap2, .int .i64 n2] 69)))
      · rw [HS.out]
        exact (((show Blk w1 tb 79 #[.int .i64 (p1 : Nat), .int .i64 e1, .bool a1, .bool d1] from hBA.grown hb1).s0 (.int .i64 ((p1 : Int) + 1))).s3 (.bool true)).old (Obj.cells #[.int .i64 s, .slice (some ⟨g2, 0, none⟩) l2 cap2, .int .i64 n2] 69)
    · have HS := Lib.hid (add_leaf_angel ⟨p1, e1, a1, d1⟩ s ha)
      rw [show fwE (.broke true) = ⟨#[97, 110, 103, 101, 108]⟩ from rfl]
      go_wp2_with (refine wp_store_BlkNew rfl _ _ _ rfl rfl rfl pl_i rfl (by simp [Value.oneCell']) ?_)
      go_end0
      refine ⟨rfl, ?_, ?_⟩
      · exact (((gb_of (tb := tb) (below_step hb0 hb1)).trans (gb_set (tb := tb) 0 (.int .i64 ((p1 : Int) + 1)))).trans (gb_set (tb := tb) 2 (.bool true))).trans (gb_of (tb := tb) (below_new (Below.refl _ _) (Obj.cells #[.int .i64 s, .slice (some ⟨g2, 0, none⟩) l2 cap2, .int .i64 n2] 69)))
      · rw [HS.out]
        exact (((show Blk w1 tb 79 #[.int .i64 (p1 : Nat), .int .i64 e1, .bool a1, .bool d1] from hBA.grown hb1).s0 (.int .i64 ((p1 : Int) + 1))).s2 (.bool true)).old (Obj.cells #[.int .i64 s, .slice (some ⟨g2, 0, none⟩) l2 cap2, .int .i64 n2] 69)
structure WalkAt (w wr : World) (S : Nat → Prop) (tb Y : Nat) (t1 : Ct) (us : List Ct) (s tn g cap g4 : Nat) (sm : Sm) : Prop where
  gb : w.grownBy wr (some tb)
  y : Blk wr Y 69 #[.int .i64 s, .slice (some ⟨g, 0, none⟩) (us.length + 1) cap, .int .i64 tn]
  o : Blk wr tb 79 sm.cel
  t : AtP wr S (t1 :: us) g cap
  i : Ints wr g4 (t1.opts s)
theorem WalkAt.ext {w wr : World} {S : Nat → Prop} {tb Y : Nat} {t1 : Ct} {us : List Ct} {s tn g cap g4 : Nat} {sm sm' : Sm} (h : WalkAt w wr S tb Y t1 us s tn g cap g4 sm) (e : sm = sm') : WalkAt w wr S tb Y t1 us s tn g cap g4 sm' := e ▸ h
theorem WalkAt.grown {w wr wr' : World} {S : Nat → Prop} {tb Y : Nat} {t1 : Ct} {us : List Ct} {s tn g cap g4 : Nat} {sm : Sm} (h : WalkAt w wr S tb Y t1 us s tn g cap g4 sm) (hb : Below wr.heap.size wr wr') : WalkAt w wr' S tb Y t1 us s tn g cap g4 sm :=
  ⟨h.gb.trans (gb_of hb), h.y.grown hb, h.o.grown hb, h.t.grown hb, h.i.grown hb⟩
theorem WalkAt.walked {w wr wr' : World} {S : Nat → Prop} {tb Y : Nat} {t1 : Ct} {us : List Ct} {s tn g cap g4 : Nat} {sm sm' : Sm} (h : WalkAt w wr S tb Y t1 us s tn g cap g4 sm) (hY : Y ≠ tb) (hg : g4 ≠ tb) (hS : ¬ S tb) (hb : wr.grownBy wr' (some tb)) (ho : Blk wr' tb 79 sm'.cel) : WalkAt w wr' S tb Y t1 us s tn g cap g4 sm' :=
  ⟨h.gb.trans hb, h.y.gb hb hY, ho, h.t.gb hb h.o hS, h.i.gb hb hg⟩
theorem impl_walkPick (S : Nat → Prop) (tb : Nat) (acc : Sm) (ha : C acc.ends) (s : Nat) (hs : s < 4) (g cap l : Nat) (n : Int) (tn : Nat) (htn : tn ≤ 999) (w : World) (t1 : Ct) (us : List Ct) (hf1 : t1.WF ∧ t1.len ≤ 200) (hnx : t1.next s = .pick) (hlen : us.length ≤ 1000) (F : Nat → Sm) (hp : acc.plays + (sumO (t1.opts s) F).plays ≤ 4398046511104) (hC : ∀ k ∈ t1.opts s, C (F k).ends)
    (hB : Blk w tb 79 acc.cel) (hS : ∀ q, S q → q < w.heap.size) (hSt : ¬ S tb)
    (HR : ∀ W, Below w.heap.size w W → Calls Try.prog 121 #[.agg #[.int .i64 s, .slice (some ⟨g, 0, none⟩) l cap, .int .i64 n]] W fun e w' => Below W.heap.size W w' ∧ ∃ g2 cap2, e = .returned (.tuple #[.agg #[.int .i64 s, .slice (some ⟨g2, 0, none⟩) (us.length + 1) cap2, .int .i64 tn], .string (whoN t1.who), .string ⟨#[]⟩]) ∧ AtP w' S (t1 :: us) g2 cap2)
    (REC : ∀ k ∈ t1.opts s, ∀ (g cap kk : Nat) (W : World) (a : Sm), ((t1.chose s k).2 ++ us).length = kk → AtP W S ((t1.chose s k).2 ++ us) g cap → Blk W tb 79 a.cel → C a.ends → a.plays + (F k).plays ≤ 4398046511104 → (∀ q, S q → q < W.heap.size) → Calls Try.prog 127 #[.pointer (some ⟨tb, 0, none⟩), .agg #[.int .i64 ((t1.chose s k).1 : Nat), .slice (some ⟨g, 0, none⟩) kk cap, .int .i64 ((tn + 1 : Nat))]] W (WalkEnd tb (a.add (F k)) W)) :
    Calls Try.prog 127 #[.pointer (some ⟨tb, 0, none⟩), .agg #[.int .i64 s, .slice (some ⟨g, 0, none⟩) l cap, .int .i64 n]] w (WalkEnd tb (acc.add (sumO (t1.opts s) F)) w) := by
  obtain ⟨fs, hu⟩ := pl_u
  have hb0 := below_new (Below.refl w.heap.size w) (Obj.cells #[.int .i64 s, .slice (some ⟨g, 0, none⟩) l cap, .int .i64 n] 69)
  have BX := Blk.new w 69 #[.int .i64 s, .slice (some ⟨g, 0, none⟩) l cap, .int .i64 n]
  have HR2 := HR _ hb0
  have hBA := hB.grown hb0
  have HREC := Lib.hid REC
  have HNX := Lib.hid hnx
  have HLT := hB.lt
  clear HR REC hnx
  go_enter Try.func127, Try.ntmps127
  go_wp2_with (refine wp_load_Blk rfl _ _ rfl w.heap.size rfl BX hu rfl pl_i ?_)
  refine HR2.mono ?_
  rintro e w1 ⟨hb1, g2, cap2, rfl, hP1⟩
  have hb2 := below_step hb0 hb1
  have hYl : tb < w1.heap.size := (hBA.grown hb1).lt
  have BY := Blk.new w1 69 #[.int .i64 s, .slice (some ⟨g2, 0, none⟩) (us.length + 1) cap2, .int .i64 tn]
  have hbY := below_new (Below.refl w1.heap.size w1) (Obj.cells #[.int .i64 s, .slice (some ⟨g2, 0, none⟩) (us.length + 1) cap2, .int .i64 tn] 69)
  have hB3 := (hBA.grown hb1).grown hbY
  have hP3 := hP1.grown hbY
  have hgb3 := gb_of (tb := tb) (below_step hb2 hbY)
  have HCH := Lib.hid (impl_choices S t1 hf1.1 us s hs HNX.out tn g2 cap2 _ hP3 (by omega))
  have hS3 : ∀ q, S q → q < w1.heap.size := fun q hq => by have := hS q hq; have := hb2.size; omega
  clear HR2 BX hBA hb0 hb1 hP1 hS
  obtain hw | hw : whoN t1.who = ⟨#[97, 110, 103, 101, 108]⟩ ∨ whoN t1.who = ⟨#[100, 101, 109, 111, 110]⟩ := by cases t1.who <;> simp [whoN]
  all_goals
    rw [hw]
    clear hw
    go_wp2_with (first
      | (refine wp_store_BlkNew rfl _ _ _ rfl rfl rfl pl_i rfl (by simp [Value.oneCell']) ?_)
      | (refine wp_load_Blk rfl _ _ rfl w1.heap.size rfl BY hu rfl pl_i ?_))
    refine HCH.out.mono ?_
    rintro e w3 ⟨g4, cap4, rfl, hI, hb3, hg4⟩
    have H0 : WalkAt w w3 S tb w1.heap.size t1 us s tn g2 cap2 g4 acc := ⟨hgb3.trans (gb_of hb3), BY.grown hb3, hB3.grown hb3, hP3.grown hb3, hI⟩
    have hg4t : g4 ≠ tb := by simp at hg4; omega
    have hYt : w1.heap.size ≠ tb := by omega
    have hS4 : ∀ q, S q → q < w3.heap.size := fun q hq => by have := hS3 q hq; have := hb3.size; simp at this; omega
    have hol := opts_le t1 s
    have HOL := Lib.hid hC
    clear HCH BY hB3 hP3 hgb3 hI hb3 hg4 hbY hb2 hS3 hC
    generalize w1.heap.size = Y at *
    clear w1
    generalize hN : (t1.opts s).length = N at *
    have HN := Lib.hid hN
    clear hN
    go_wp2_with fail
    go_loopw [20] (fun i wr => ∃ k : Nat, k ≤ N ∧ i = .int .i64 k ∧ WalkAt w wr S tb Y t1 us s tn g2 cap2 g4 (acc.add (sumO ((t1.opts s).take k) F)) ∧ w3.heap.size ≤ wr.heap.size) (fun i _ => N - (intOf i).toNat)
    case atStart => exact ⟨0, by omega, rfl, H0.ext (by rw [List.take_zero]; exact (Sm.add_zero ha).symm), Nat.le_refl _⟩
    case round =>
      clear H0
      obtain ⟨k, hk, rfl, H, hsz⟩ := hrel
      by_cases hlt : k < N
      · have hki : (k : Int) < (N : Int) := by omega
        obtain ⟨x, hx⟩ : ∃ x, (t1.opts s)[k]? = some x := ⟨(t1.opts s)[k]'(by rw [HN.out]; exact hlt), by simp⟩
        have hxm := List.mem_of_getElem? hx
        have hc := H.i.lies k x hx
        have HY := H.y
        have HTK := Lib.hid (sumO_take (t1.opts s) F k x hx)
        have hle := sumO_le (t1.opts s) F (k + 1)
        rw [HTK.out] at hle
        have hle2 : acc.plays + ((sumO ((t1.opts s).take k) F).plays + (F x).plays) ≤ 4398046511104 := by simp only [Sm.add] at hle; omega
        have hS5 : ∀ q, S q → q < wr.heap.size := fun q hq => by have := hS4 q hq; omega
        have HCO := Lib.hid (impl_choose S t1 hf1.1 us s x HNX.out hxm tn g2 cap2 wr htn H.t (by omega) hS5)
        have HREX := Lib.hid (HREC.out x hxm)
        have HFC := Lib.hid (HOL.out x hxm)
        have HTC : Hid (C (sumO ((t1.opts s).take k) F).ends) := sumO_c _ _ fun k hk => HOL.out k (List.mem_of_mem_take hk)
        clear hx hxm hle
        go_wp2_with (refine wp_load_Blk rfl _ _ rfl Y rfl HY hu rfl pl_i ?_)
        refine HCO.out.mono ?_
        rintro e w5 ⟨g5, cap5, he5, hP5, hb5⟩
        obtain ⟨kk, hkk⟩ : ∃ kk, ((t1.chose s x).2 ++ us).length = kk := ⟨_, rfl⟩
        rw [hkk] at he5
        subst he5
        have H5 := H.grown hb5
        have HW := HREX.out g5 cap5 kk w5 _ hkk hP5 H5.o (C.or ha HTC.out) (by simp only [Sm.add]; omega) (fun q hq => by have := hS5 q hq; have := hb5.size; omega)
        clear hkk hP5 HCO HREX HY hc
        go_wp2_with fail
        refine HW.mono ?_
        rintro e w6 ⟨rfl, hg6, hB6⟩
        have H6 := H5.walked hYt hg4t hSt hg6 hB6
        rw [Sm.add_assoc ha HTC.out HFC.out, ← HTK.out] at H6
        have hsz6 : w3.heap.size ≤ w6.heap.size := by have := hb5.size; have := hg6.size; omega
        clear HW H5 hg6 hB6 H hsz
        go_wp2_with fail
        go_roundw
        case rel => exact ⟨k + 1, by omega, by go_num, H6, hsz6⟩
        case measure => simp [intOf]; omega
      · have hke : k = N := by omega
        have e1 : sumO ((t1.opts s).take k) F = sumO (t1.opts s) F := by rw [hke, ← HN.out, List.take_length]
        rw [e1] at H
        clear hke e1
        go_wp2_with fail
        refine bodyPost_ret (results_none rfl _ _ _) rfl ⟨rfl, H.gb, H.o⟩
theorem impl_walk (S : Nat → Prop) (tb : Nat) (hSt : ¬ S tb) (f : Nat) : ∀ (s : Nat) (hs : s < 4) (ts : List Ct) (hf : FitC ts) (hl : Flat ts) (h1 : tot ts < f) (h2 : tot ts ≤ 20) (n : Nat) (hn : tot ts ≤ n) (hn2 : n ≤ 200) (g cap len : Nat) (hlen : ts.length = len) (acc : Sm) (hp : acc.plays + (allA f s ts).plays ≤ 4398046511104) (ha : C acc.ends) (w : World) (hT : AtP w S ts g cap) (hB : Blk w tb 79 acc.cel) (hS : ∀ q, S q → q < w.heap.size),
    Calls Try.prog 127 #[.pointer (some ⟨tb, 0, none⟩), .agg #[.int .i64 s, .slice (some ⟨g, 0, none⟩) len cap, .int .i64 ((200 - n : Nat))]] w (WalkEnd tb (acc.add (allA f s ts)) w) := by
  induction f with
  | zero => intro s hs ts hf hl h1; omega
  | succ f ih =>
    intro s hs ts hf hl h1 h2 n hn hn2 g cap len hlen acc hp ha w hT hB hS
    subst hlen
    have hle := len_tot ts
    have hfl := run_flat (s := s) (n := n) hf hl hn
    have hfl2 := hfl.2.2.2 200 (by omega)
    have hfr := fit_run0 (n := n) (s := s) hf
    have hfr2 := fit_run (n := n) (s := s) hf (by omega)
    have HR := fun (W : World) (hb : Below w.heap.size w W) => impl_fwd S n s hs hn2 ts hf (by omega) g cap W (hT.grown hb) (fun q hq => by have := hS q hq; have := hb.size; omega)
    have hm := run_le0 n s ts
    obtain ⟨⟨m, us, e⟩, hR⟩ : ∃ r, r = run n s ts := ⟨_, rfl⟩
    rw [← hR] at hfl hfr hfr2 HR hfl2 hm
    simp only at hfl2 hm
    by_cases he : e = .pick
    · subst he
      obtain ⟨t1, u, rfl, hnx, hne, hm1, _⟩ := run_pick hR.symm
      have hal : allA (f + 1) s ts = _ := all_pick (f := f) hfl2
      have hlt := hfl.1 t1 (by simp)
      have htt := hfl.2.1
      simp only [tot] at htt
      rw [hal]
      rw [hal] at hp
      refine impl_walkPick S tb acc ha s hs g cap ts.length _ (200 - m) (by omega) w t1 u (hfr t1 (by simp)) hnx (by have := hfr2.2; simp only [List.length_cons] at this; omega) _ hp (fun k hk => all_c f _ _ (chose_lt hs hk)) hB hS hSt (fun W hb => (HR W hb).mono fun e w' h => ?_) (fun k hk g3 cap3 kk W a hkk hP3 hB3 ha3 hp3 hS3 => ?_)
      · obtain ⟨h5, g2, cap2, h6, h7⟩ := h
        exact ⟨h5, g2, cap2, h6, h7⟩
      · have hc := chose_flat (hfr t1 (by simp)).1 hlt s k
        have hq : tot ((t1.chose s k).2 ++ u) + 1 + n ≤ tot ts + m := by rw [tot_app]; omega
        have e200 : 200 - m + 1 = 200 - (m - 1) := by omega
        rw [e200]
        exact ih _ (chose_lt hs hk) _ (fit_chose hfr s k).1 (hc.1.app hfl.1.tail) (by omega) (by omega) (m - 1) (by omega) (by omega) g3 cap3 kk hkk a hp3 ha3 W hP3 hB3 hS3
    · rw [all_leaf hfl2 he] at hp ⊢
      have h1p : (leafS e s).plays = 1 := by
        cases e with
        | broke a => cases a <;> rfl
        | _ => rfl
      refine impl_walkLeaf tb acc (by omega) ha e he hfl.2.2.1 s hs g cap ts.length _ w hB (fun W hb => (HR W hb).mono fun e' w' h => ?_)
      obtain ⟨h5, g2, cap2, h6, h7⟩ := h
      have hw : fwW (us, e) = ⟨#[]⟩ := by
        cases us with
        | nil => cases e <;> rfl
        | cons t us => cases e <;> first | exact absurd rfl he | rfl
      have h6' : e' = .returned (.tuple #[.agg #[.int .i64 s, .slice (some ⟨g2, 0, none⟩) us.length cap2, .int .i64 ((200 - m : Nat))], .string (fwW (us, e)), .string (fwE e)]) := h6
      rw [hw] at h6'
      exact ⟨h5, g2, cap2, _, _, h6'⟩
end Go.Proofs.Ytihmdfhgkfgmnaa

/- LawQ -/
namespace Go.Proofs.Ytihmdfhgkfgmnaa
set_option linter.unusedVariables false
set_option linter.unusedSimpArgs false
open Go.RowKit Go.Shelf
set_option maxRecDepth 100000
set_option maxHeartbeats 10000000

def anyW : ByteArray := ⟨#[115, 97, 109, 33, 63, 65, 68, 59, 38, 124, 105, 119, 42, 43]⟩
theorem loopW_all : ∀ n : _root_.Fin 256, inOps loopW (UInt8.ofNat n.val) = !nlp (UInt8.ofNat n.val) := by decide +kernel
theorem anyW_all : ∀ n : _root_.Fin 256, (shp (UInt8.ofNat n.val)).isSome = true → inOps anyW (UInt8.ofNat n.val) = true := by decide +kernel
theorem loopW_nlp (o : UInt8) : inOps loopW o = !nlp o := by
  have := loopW_all ⟨o.toNat, o.toNat_lt⟩
  simpa using this
theorem anyW_shp (o : UInt8) (h : (shp o).isSome = true) : inOps anyW o = true := by
  have := anyW_all ⟨o.toNat, o.toNat_lt⟩
  simpa [h] using this
theorem knowsAny : ∀ t : Ct, t.WF → t.knows (inOps anyW) = true
  | .n0 o d, h => anyW_shp o (by rw [h.1]; rfl)
  | .n1 o d x, h => by simp only [Ct.knows, Bool.and_eq_true]; exact ⟨anyW_shp o (by rw [h.1.1]; rfl), knowsAny x h.2⟩
  | .n2 o d x y, h => by simp only [Ct.knows, Bool.and_eq_true]; exact ⟨anyW_shp o (by rw [h.1.1]; rfl), knowsAny x h.2.1, knowsAny y h.2.2⟩
theorem cnt_any (t : Ct) (h : t.WF) : t.cnt (inOps anyW) = t.num := (Ct.cnt_all t).2 (knowsAny t h)
theorem cnt_none (p : UInt8 → Bool) : ∀ t : Ct, t.cnt p = 0 ↔ t.knows (fun o => !p o) = true
  | .n0 o d => by simp only [Ct.cnt, Ct.knows]; cases p o <;> simp
  | .n1 o d x => by
    have := cnt_none p x
    simp only [Ct.cnt, Ct.knows, Bool.and_eq_true]
    rw [← this]
    cases p o <;> simp
  | .n2 o d x y => by
    have := cnt_none p x
    have := cnt_none p y
    simp only [Ct.cnt, Ct.knows, Bool.and_eq_true]
    rw [← cnt_none p x, ← cnt_none p y]
    cases p o <;> simp
theorem cnt_loop (t : Ct) : t.cnt (inOps loopW) = 0 ↔ t.flat = true := by
  rw [cnt_none]
  have : (fun o => !inOps loopW o) = nlp := by funext o; rw [loopW_nlp]; simp
  rw [this]; rfl
theorem small_tot (t : Ct) : tot [t] = t.num := by simp [tot]
def APEnd (a : Sm) (ok : Bool) (w : World) (e : Ending) (w' : World) : Prop := e = .returned (.tuple #[.agg a.cel, .bool ok]) ∧ Below w.heap.size w w'
theorem impl_allPlays_no1 (c : ByteArray) (s : Int) (hc : c.size ≤ 4611686018427387904) (h : isCt c = false) (w : World) : Calls Try.prog 62 #[.string c, .int .i64 s] w (APEnd Sm.zero false w) := by
  obtain ⟨fs2, hu2⟩ := tl_u
  have hb0 := below_new (Below.refl w.heap.size w) (Obj.cells #[.int .i64 0, .int .i64 0, .bool false, .bool false] 79)
  have BZ := Blk.new w 79 #[.int .i64 0, .int .i64 0, .bool false, .bool false]
  go_enter Try.func62, Try.ntmps62
  go_wp2_with fail
  refine (impl_read c hc _).mono ?_
  rintro e w1 ⟨hA, hb1⟩
  obtain rfl : e = .returned (.pointer none) := by
    rcases hA with ⟨t, _, h1, rfl, h3, _⟩ | ⟨_, rfl⟩
    · rw [isCt_text h1 h3] at h; cases h
    · rfl
  clear hA h
  have BZ1 := (BZ.grown hb1).old (Obj.cells #[.int .i64 0, .int .i64 0, .bool false, .bool false] 79)
  have BT := Blk.new w1 79 #[.int .i64 0, .int .i64 0, .bool false, .bool false]
  have hb := below_new (below_step hb0 hb1) (Obj.cells #[.int .i64 0, .int .i64 0, .bool false, .bool false] 79)
  go_wp2_with (first
    | (refine wp_store_Blk rfl _ _ _ rfl w.heap.size rfl rfl BZ1 tl_i rfl (by simp [Value.oneCell']) ?_)
    | (refine wp_load_Blk rfl _ _ rfl w1.heap.size rfl BT hu2 rfl tl_i ?_))
  exact ret_Blk2 rfl w.heap.size rfl (BZ1.setRow _) hu2 rfl tl_i rfl ⟨rfl, below_setRow hb (Nat.le_refl _) _⟩
theorem impl_allPlays_loop (t : Ct) (ht : t.WF) (hlen : t.len ≤ 200) (s : Int) (h : t.flat = false) (w : World) : Calls Try.prog 62 #[.string t.text, .int .i64 s] w (APEnd Sm.zero false w) := by
  obtain ⟨fs2, hu2⟩ := tl_u
  have hb0 := below_new (Below.refl w.heap.size w) (Obj.cells #[.int .i64 0, .int .i64 0, .bool false, .bool false] 79)
  have BZ := Blk.new w 79 #[.int .i64 0, .int .i64 0, .bool false, .bool false]
  have HC1 := Lib.hid (impl_count loopW t hlen)
  have HC2 := Lib.hid (impl_count anyW t hlen)
  have hcl := cnt_loop t
  have hca := cnt_any t ht
  have hnl := t.num_le
  have hpos : 0 < (t.cnt (inOps loopW) : Int) := by
    have : t.cnt (inOps loopW) ≠ 0 := fun e => by rw [hcl.1 e] at h; cases h
    omega
  clear hcl hca h
  go_enter Try.func62, Try.ntmps62
  go_wp2_with fail
  refine (impl_read t.text (szCtP hlen) _).mono ?_
  intro e w1 hA
  obtain ⟨b, rfl, hT, hb1⟩ := read_tree ht hlen hA
  clear hA
  have BZ1 := (BZ.grown hb1).old (Obj.cells #[.int .i64 0, .int .i64 0, .bool false, .bool false] 79)
  have BT := Blk.new w1 79 #[.int .i64 0, .int .i64 0, .bool false, .bool false]
  have hb := below_new (below_step hb0 hb1) (Obj.cells #[.int .i64 0, .int .i64 0, .bool false, .bool false] 79)
  have hT2 := Tree.grown (below_new (Below.refl w1.heap.size w1) (Obj.cells #[.int .i64 0, .int .i64 0, .bool false, .bool false] 79)) t b hT
  go_wp2_with fail
  refine (HC1.out b _ _ hT2).mono ?_
  rintro e w' ⟨rfl, rfl⟩
  go_wp2_with (first
    | (refine wp_store_Blk rfl _ _ _ rfl w.heap.size rfl rfl BZ1 tl_i rfl (by simp [Value.oneCell']) ?_)
    | (refine wp_load_Blk rfl _ _ rfl w1.heap.size rfl BT hu2 rfl tl_i ?_))
  exact ret_Blk2 rfl w.heap.size rfl (BZ1.setRow _) hu2 rfl tl_i rfl ⟨rfl, below_setRow hb (Nat.le_refl _) _⟩
theorem impl_allPlays_big (t : Ct) (ht : t.WF) (hlen : t.len ≤ 200) (s : Int) (h : t.flat = true) (h2 : ¬ t.num ≤ 10) (w : World) : Calls Try.prog 62 #[.string t.text, .int .i64 s] w (APEnd Sm.zero false w) := by
  obtain ⟨fs2, hu2⟩ := tl_u
  have hb0 := below_new (Below.refl w.heap.size w) (Obj.cells #[.int .i64 0, .int .i64 0, .bool false, .bool false] 79)
  have BZ := Blk.new w 79 #[.int .i64 0, .int .i64 0, .bool false, .bool false]
  have HC1 := Lib.hid (impl_count loopW t hlen)
  have HC2 := Lib.hid (impl_count anyW t hlen)
  have hcl := cnt_loop t
  have hca := cnt_any t ht
  have hnl := t.num_le
  have HZ := Lib.hid (hcl.2 h)
  have hpos : (10 : Int) < (t.cnt (inOps anyW) : Int) := by omega
  clear hcl hca h h2
  go_enter Try.func62, Try.ntmps62
  go_wp2_with fail
  refine (impl_read t.text (szCtP hlen) _).mono ?_
  intro e w1 hA
  obtain ⟨b, rfl, hT, hb1⟩ := read_tree ht hlen hA
  clear hA
  have BZ1 := (BZ.grown hb1).old (Obj.cells #[.int .i64 0, .int .i64 0, .bool false, .bool false] 79)
  have BT := Blk.new w1 79 #[.int .i64 0, .int .i64 0, .bool false, .bool false]
  have hb := below_new (below_step hb0 hb1) (Obj.cells #[.int .i64 0, .int .i64 0, .bool false, .bool false] 79)
  have hT2 := Tree.grown (below_new (Below.refl w1.heap.size w1) (Obj.cells #[.int .i64 0, .int .i64 0, .bool false, .bool false] 79)) t b hT
  go_wp2_with fail
  refine (HC1.out b _ _ hT2).mono ?_
  rintro e w' ⟨rfl, rfl⟩
  rw [HZ.out, show ((0 : Nat) : Int) = 0 from rfl]
  go_wp2_with fail
  refine (HC2.out b _ _ hT2).mono ?_
  rintro e w' ⟨rfl, rfl⟩
  go_wp2_with (first
    | (refine wp_store_Blk rfl _ _ _ rfl w.heap.size rfl rfl BZ1 tl_i rfl (by simp [Value.oneCell']) ?_)
    | (refine wp_load_Blk rfl _ _ rfl w1.heap.size rfl BT hu2 rfl tl_i ?_))
  exact ret_Blk2 rfl w.heap.size rfl (BZ1.setRow _) hu2 rfl tl_i rfl ⟨rfl, below_setRow hb (Nat.le_refl _) _⟩
theorem impl_allPlays_st (t : Ct) (ht : t.WF) (hlen : t.len ≤ 200) (s : Int) (h : t.flat = true) (h2 : t.num ≤ 10) (h3 : stOk s = false) (w : World) : Calls Try.prog 62 #[.string t.text, .int .i64 s] w (APEnd Sm.zero false w) := by
  obtain ⟨fs2, hu2⟩ := tl_u
  have hb0 := below_new (Below.refl w.heap.size w) (Obj.cells #[.int .i64 0, .int .i64 0, .bool false, .bool false] 79)
  have BZ := Blk.new w 79 #[.int .i64 0, .int .i64 0, .bool false, .bool false]
  have HC1 := Lib.hid (impl_count loopW t hlen)
  have HC2 := Lib.hid (impl_count anyW t hlen)
  have hcl := cnt_loop t
  have hca := cnt_any t ht
  have hnl := t.num_le
  have HZ := Lib.hid (hcl.2 h)
  have hpos : ¬ (10 : Int) < (t.cnt (inOps anyW) : Int) := by omega
  have HS := Lib.hid h3
  clear hcl hca h h2 h3
  go_enter Try.func62, Try.ntmps62
  go_wp2_with fail
  refine (impl_read t.text (szCtP hlen) _).mono ?_
  intro e w1 hA
  obtain ⟨b, rfl, hT, hb1⟩ := read_tree ht hlen hA
  clear hA
  have BZ1 := (BZ.grown hb1).old (Obj.cells #[.int .i64 0, .int .i64 0, .bool false, .bool false] 79)
  have BT := Blk.new w1 79 #[.int .i64 0, .int .i64 0, .bool false, .bool false]
  have hb := below_new (below_step hb0 hb1) (Obj.cells #[.int .i64 0, .int .i64 0, .bool false, .bool false] 79)
  have hT2 := Tree.grown (below_new (Below.refl w1.heap.size w1) (Obj.cells #[.int .i64 0, .int .i64 0, .bool false, .bool false] 79)) t b hT
  go_wp2_with fail
  refine (HC1.out b _ _ hT2).mono ?_
  rintro e w' ⟨rfl, rfl⟩
  rw [HZ.out, show ((0 : Nat) : Int) = 0 from rfl]
  go_wp2_with fail
  refine (HC2.out b _ _ hT2).mono ?_
  rintro e w' ⟨rfl, rfl⟩
  go_wp2_with fail
  refine (impl_stateOk _ _).mono ?_
  rintro e w' ⟨rfl, rfl⟩
  rw [HS.out]
  go_wp2_with (first
    | (refine wp_store_Blk rfl _ _ _ rfl w.heap.size rfl rfl BZ1 tl_i rfl (by simp [Value.oneCell']) ?_)
    | (refine wp_load_Blk rfl _ _ rfl w1.heap.size rfl BT hu2 rfl tl_i ?_))
  exact ret_Blk2 rfl w.heap.size rfl (BZ1.setRow _) hu2 rfl tl_i rfl ⟨rfl, below_setRow hb (Nat.le_refl _) _⟩
theorem impl_allPlays_yes (t : Ct) (ht : t.WF) (hlen : t.len ≤ 200) (s : Nat) (hs : s < 4) (h : t.flat = true) (h2 : t.num ≤ 10) (w : World) : Calls Try.prog 62 #[.string t.text, .int .i64 s] w (APEnd (t.all s) true w) := by
  obtain ⟨fs2, hu2⟩ := tl_u
  have hb0 := below_new (Below.refl w.heap.size w) (Obj.cells #[.int .i64 0, .int .i64 0, .bool false, .bool false] 79)
  have BZ := Blk.new w 79 #[.int .i64 0, .int .i64 0, .bool false, .bool false]
  have HC1 := Lib.hid (impl_count loopW t hlen)
  have HC2 := Lib.hid (impl_count anyW t hlen)
  have hcl := cnt_loop t
  have hca := cnt_any t ht
  have hnl := t.num_le
  have HZ := Lib.hid (hcl.2 h)
  have hpos : ¬ (10 : Int) < (t.cnt (inOps anyW) : Int) := by omega
  have HS : Hid (stOk (s : Int) = true) := stOk_of hs
  have hbd := all_bound 11 s [t] (fit_one ht hlen) (fun x hx => by simp at hx; subst hx; exact h) (by simp [tot]; omega)
  have h4 : (4 : Nat) ^ tot [t] ≤ 4 ^ 10 := Nat.pow_le_pow_right (by omega) (by rw [small_tot]; exact h2)
  have h40 : (allA 11 s [t]).plays ≤ 1048576 := Nat.le_trans hbd (Nat.le_trans h4 (by decide))
  have HW := Lib.hid (fun (S : Nat → Prop) (tb : Nat) (hSt : ¬ S tb) => impl_walk S tb hSt 11 s hs [t] (fit_one ht hlen) (fun x hx => by simp at hx; subst hx; exact h) (by rw [small_tot]; omega) (by rw [small_tot]; omega) 200 (by rw [small_tot]; omega) (by omega))
  clear hcl hca h h2 hbd h4
  go_enter Try.func62, Try.ntmps62
  go_wp2_with fail
  refine (impl_read t.text (szCtP hlen) _).mono ?_
  intro e w1 hA
  obtain ⟨b, rfl, hT, hb1⟩ := read_tree ht hlen hA
  clear hA
  have BZ1 := (BZ.grown hb1).old (Obj.cells #[.int .i64 0, .int .i64 0, .bool false, .bool false] 79)
  have BT := Blk.new w1 79 #[.int .i64 0, .int .i64 0, .bool false, .bool false]
  have hb := below_new (below_step hb0 hb1) (Obj.cells #[.int .i64 0, .int .i64 0, .bool false, .bool false] 79)
  have hT2 := Tree.grown (below_new (Below.refl w1.heap.size w1) (Obj.cells #[.int .i64 0, .int .i64 0, .bool false, .bool false] 79)) t b hT
  go_wp2_with fail
  refine (HC1.out b _ _ hT2).mono ?_
  rintro e w' ⟨rfl, rfl⟩
  rw [HZ.out, show ((0 : Nat) : Int) = 0 from rfl]
  go_wp2_with fail
  refine (HC2.out b _ _ hT2).mono ?_
  rintro e w' ⟨rfl, rfl⟩
  go_wp2_with fail
  refine (impl_stateOk _ _).mono ?_
  rintro e w' ⟨rfl, rfl⟩
  rw [HS.out]
  go_wp2_with fail
  refine (impl_start _ t b s _ hT2 (fun q hq => by have : q < w1.heap.size := hq; simp; omega)).mono ?_
  rintro e w2 ⟨g, rfl, hP, hb2⟩
  have HW2 := HW.out _ w1.heap.size (by show ¬ w1.heap.size < w1.heap.size; omega) g 1 1 rfl Sm.zero (by simp only [Sm.zero]; omega) C.zero w2 hP (BT.grown hb2) (fun q hq => by have : q < w1.heap.size := hq; have := hb2.size; simp at this; omega)
  rw [show ((200 - 200 : Nat) : Int) = 0 from rfl] at HW2
  have BZ2 := BZ1.grown hb2
  have hwl : w.heap.size < w1.heap.size := (BZ.grown hb1).lt
  clear HW hP
  go_wp2_with fail
  refine HW2.mono ?_
  rintro e w3 ⟨rfl, hg3, hB3⟩
  rw [Sm.zero_add (all_c 11 s [t] hs)] at hB3
  have BZ3 := BZ2.gb hg3 (by omega)
  have hb3 := (below_step hb hb2).grown hg3 (below_step hb hb2).size (fun k hk => by cases hk; omega)
  clear HW2
  go_wp2_with (first
    | (refine wp_store_Blk rfl _ _ _ rfl w.heap.size rfl rfl BZ3 tl_i rfl (by simp [Sm.cel, Value.oneCell']) ?_)
    | (refine wp_load_Blk rfl _ _ rfl w1.heap.size rfl hB3 hu2 rfl tl_i ?_))
  exact ret_Blk2 rfl w.heap.size rfl (BZ3.setRow _) hu2 rfl tl_i rfl ⟨rfl, below_setRow hb3 (Nat.le_refl _) _⟩
theorem impl_allPlays_B (t : Ct) (ht : t.WF) (hlen : t.len ≤ 200) (s : Int) (h : (t.flat && decide (t.num ≤ 10)) = false) (w : World) : Calls Try.prog 62 #[.string t.text, .int .i64 s] w (APEnd Sm.zero false w) := by
  cases hf : t.flat
  · exact impl_allPlays_loop t ht hlen s hf w
  · exact impl_allPlays_big t ht hlen s hf (by simpa [hf] using h) w
theorem impl_allPlays_A (c : ByteArray) (s : Int) (hc : c.size ≤ 4611686018427387904) (h : (isCt c && stOk s) = false) (w : World) : Calls Try.prog 62 #[.string c, .int .i64 s] w (APEnd Sm.zero false w) := by
  cases k1 : isCt c
  · exact impl_allPlays_no1 c s hc k1 w
  · obtain ⟨t, ht, rfl, hlt⟩ := ct_ofP k1
    cases hq : t.flat && decide (t.num ≤ 10)
    · exact impl_allPlays_B t ht hlt s hq w
    · have hh : t.flat = true ∧ t.num ≤ 10 := by simpa using hq
      exact impl_allPlays_st t ht hlt s hh.1 hh.2 (by simpa [k1] using h) w
theorem impl_CountPlays_no (c : ByteArray) (s : Int) (a : Sm) (HA : ∀ w, Calls Try.prog 62 #[.string c, .int .i64 s] w (APEnd a false w)) (w : World) : Calls Try.prog 21 #[.string c, .int .i64 s] w fun e w' => e = .returned (.int .i64 (-1)) ∧ Below w.heap.size w w' := by
  have H := Lib.hid HA
  clear HA
  go_enter Try.func21, Try.ntmps21
  go_wp2_with fail
  refine (H.out _).mono ?_
  rintro e w1 ⟨rfl, hb⟩
  go_wp2_with (refine wp_store_BlkNew rfl _ _ _ rfl rfl rfl tl_i rfl (by simp [Sm.cel, Value.oneCell']) ?_)
  go_ret
  exact ⟨rfl, below_new hb _⟩
theorem impl_CountPlays_yes (c : ByteArray) (s : Int) (a : Sm) (HA : ∀ w, Calls Try.prog 62 #[.string c, .int .i64 s] w (APEnd a true w)) (w : World) : Calls Try.prog 21 #[.string c, .int .i64 s] w fun e w' => e = .returned (.int .i64 (a.plays : Nat)) ∧ Below w.heap.size w w' := by
  have H := Lib.hid HA
  clear HA
  go_enter Try.func21, Try.ntmps21
  go_wp2_with fail
  refine (H.out _).mono ?_
  rintro e w1 ⟨rfl, hb⟩
  rw [show a.cel = #[.int .i64 (a.plays : Nat), .int .i64 a.ends, .bool a.angel, .bool a.demon] from rfl]
  go_wp2_with (refine wp_store_BlkNew rfl _ _ _ rfl rfl rfl tl_i rfl (by simp [Value.oneCell']) ?_)
  go_ret
  exact ⟨rfl, below_new hb _⟩
theorem impl_OutcomesOf_no (c : ByteArray) (s : Int) (a : Sm) (HA : ∀ w, Calls Try.prog 62 #[.string c, .int .i64 s] w (APEnd a false w)) (w : World) : Calls Try.prog 23 #[.string c, .int .i64 s] w fun e w' => e = .returned (.tuple #[.int .i64 (-1), .bool false, .bool false]) ∧ Below w.heap.size w w' := by
  have H := Lib.hid HA
  clear HA
  go_enter Try.func23, Try.ntmps23
  go_wp2_with fail
  refine (H.out _).mono ?_
  rintro e w1 ⟨rfl, hb⟩
  go_wp2_with (refine wp_store_BlkNew rfl _ _ _ rfl rfl rfl tl_i rfl (by simp [Sm.cel, Value.oneCell']) ?_)
  go_ret3
  exact ⟨rfl, below_new hb _⟩
theorem impl_OutcomesOf_yes (c : ByteArray) (s : Int) (a : Sm) (HA : ∀ w, Calls Try.prog 62 #[.string c, .int .i64 s] w (APEnd a true w)) (w : World) : Calls Try.prog 23 #[.string c, .int .i64 s] w fun e w' => e = .returned (.tuple #[.int .i64 a.ends, .bool a.angel, .bool a.demon]) ∧ Below w.heap.size w w' := by
  have H := Lib.hid HA
  clear HA
  go_enter Try.func23, Try.ntmps23
  go_wp2_with fail
  refine (H.out _).mono ?_
  rintro e w1 ⟨rfl, hb⟩
  rw [show a.cel = #[.int .i64 (a.plays : Nat), .int .i64 a.ends, .bool a.angel, .bool a.demon] from rfl]
  go_wp2_with (refine wp_store_BlkNew rfl _ _ _ rfl rfl rfl tl_i rfl (by simp [Value.oneCell']) ?_)
  go_region
  go_wp2_with fail
  go_ret3
  exact ⟨rfl, (below_new hb _).drew⟩
theorem walk_ExactCountPlays (c : ByteArray) (s : Int) (w : World) (h0 : c.size ≤ maxLen) (_h1 : (Lit.int .i64 s).wf = true) :
    Calls Try.prog 8 #[.string c, .int .i64 s] w fun e w' => e = .returned (.bool true) ∧ Below w.heap.size w w' := by
  unfold maxLen at h0
  by_cases hs : c.size ≤ 1048576
  · have hc : c.size ≤ 4611686018427387904 := by omega
    cases hk : isCt c && stOk s
    · have hi := impl_CountPlays_no c s _ (fun w => impl_allPlays_A c s hc hk w)
      go_enter Try.func8, Try.ntmps8
      go_wp2_with fail
      refine (spec_CountPlays_no _ _ _ hc hk).mono ?_
      rintro e w' ⟨rfl, rfl⟩
      go_wp2_with fail
      refine (hi _).mono ?_
      rintro e w' ⟨rfl, hb⟩
      go_wp2_with fail
      go_ret
      exact ⟨rfl, hb⟩
    · have hh : isCt c = true ∧ stOk s = true := by simpa using hk
      obtain ⟨t, ht, rfl, hlt⟩ := ct_ofP hh.1
      obtain ⟨n, hn, rfl⟩ := stOk_nat hh.2
      clear hk hh
      cases hq : t.flat && decide (t.num ≤ 10)
      · have hi := Lib.hid (impl_CountPlays_no t.text (n : Int) _ (fun w => impl_allPlays_B t ht hlt (n : Int) hq w))
        have hj := Lib.hid (spec_CountPlays_big t ht hlt n hn)
        have HQ := Lib.hid hq
        clear hq
        go_enter Try.func8, Try.ntmps8
        go_wp2_with fail
        refine (hj.out _ HQ.out).mono ?_
        rintro e w1 ⟨rfl, hb1⟩
        go_wp2_with fail
        refine (hi.out _).mono ?_
        rintro e w2 ⟨rfl, hb2⟩
        go_wp2_with fail
        go_ret
        exact ⟨rfl, below_step hb1 hb2⟩
      · have hh : t.flat = true ∧ t.num ≤ 10 := by simpa using hq
        have hi := Lib.hid (impl_CountPlays_yes t.text (n : Int) _ (fun w => impl_allPlays_yes t ht hlt n hn hh.1 hh.2 w))
        have hj := Lib.hid (fun w => spec_CountPlays_yes t ht hlt n hn w hh.1 hh.2)
        clear hq hh
        go_enter Try.func8, Try.ntmps8
        go_wp2_with fail
        refine (hj.out _).mono ?_
        rintro e w1 ⟨rfl, hb1⟩
        go_wp2_with fail
        refine (hi.out _).mono ?_
        rintro e w2 ⟨rfl, hb2⟩
        go_wp2_with fail
        go_ret
        exact ⟨rfl, below_step hb1 hb2⟩
  · go_enter Try.func8, Try.ntmps8
    go_wp2_with fail
    go_ret
    exact ⟨rfl, Below.refl _ _⟩
theorem walk_ExactOutcomesOf (c : ByteArray) (s : Int) (w : World) (h0 : c.size ≤ maxLen) (_h1 : (Lit.int .i64 s).wf = true) :
    Calls Try.prog 9 #[.string c, .int .i64 s] w fun e w' => e = .returned (.bool true) ∧ Below w.heap.size w w' := by
  unfold maxLen at h0
  by_cases hs : c.size ≤ 1048576
  · have hc : c.size ≤ 4611686018427387904 := by omega
    cases hk : isCt c && stOk s
    · have hi := impl_OutcomesOf_no c s _ (fun w => impl_allPlays_A c s hc hk w)
      go_enter Try.func9, Try.ntmps9
      go_wp2_with fail
      refine (spec_OutcomesOf_no _ _ _ hc hk).mono ?_
      rintro e w' ⟨rfl, rfl⟩
      go_wp2_with fail
      refine (hi _).mono ?_
      rintro e w' ⟨rfl, hb⟩
      go_wp2_with fail
      go_ret
      exact ⟨rfl, hb⟩
    · have hh : isCt c = true ∧ stOk s = true := by simpa using hk
      obtain ⟨t, ht, rfl, hlt⟩ := ct_ofP hh.1
      obtain ⟨n, hn, rfl⟩ := stOk_nat hh.2
      clear hk hh
      cases hq : t.flat && decide (t.num ≤ 10)
      · have hi := Lib.hid (impl_OutcomesOf_no t.text (n : Int) _ (fun w => impl_allPlays_B t ht hlt (n : Int) hq w))
        have hj := Lib.hid (spec_OutcomesOf_big t ht hlt n hn)
        have HQ := Lib.hid hq
        clear hq
        go_enter Try.func9, Try.ntmps9
        go_wp2_with fail
        refine (hj.out _ HQ.out).mono ?_
        rintro e w1 ⟨rfl, hb1⟩
        go_wp2_with fail
        refine (hi.out _).mono ?_
        rintro e w2 ⟨rfl, hb2⟩
        go_wp2_with fail
        go_ret
        exact ⟨rfl, below_step hb1 hb2⟩
      · have hh : t.flat = true ∧ t.num ≤ 10 := by simpa using hq
        have hi := Lib.hid (impl_OutcomesOf_yes t.text (n : Int) _ (fun w => impl_allPlays_yes t ht hlt n hn hh.1 hh.2 w))
        have hj := Lib.hid (fun w => spec_OutcomesOf_yes t ht hlt n hn w hh.1 hh.2)
        clear hq hh
        go_enter Try.func9, Try.ntmps9
        go_wp2_with fail
        refine (hj.out _).mono ?_
        rintro e w1 ⟨rfl, hb1⟩
        go_wp2_with fail
        refine (hi.out _).mono ?_
        rintro e w2 ⟨rfl, hb2⟩
        go_wp2_with fail
        go_ret
        exact ⟨rfl, below_step hb1 hb2⟩
  · go_enter Try.func9, Try.ntmps9
    go_wp2_with fail
    go_ret
    exact ⟨rfl, Below.refl _ _⟩
end Go.Proofs.Ytihmdfhgkfgmnaa
