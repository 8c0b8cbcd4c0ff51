/- Contracts: the program's exported functions on transformers and residuals. -/
import Derived.Test.YtaeibhpkcikaaaaGreatDoorImF
import Derived.Test.YtaeibhpkcikaaaaGreatDoorGE
import Derived.ChangeKeysEq
import Derived.Deep.RegionWith
/- Im12 -/
namespace Go.Proofs.YtaeibhpkcikaaaaGreatDoor
set_option linter.unusedVariables false
set_option linter.unusedSimpArgs false
open Go.RowKit Go.Shelf
set_option maxRecDepth 100000
set_option maxHeartbeats 1000000

theorem impl_meet1 (t u : Nat → Int) (b c : Nat) (w : World) (HT : Row w b 95 16 t) (HU : Row w c 95 16 u) (k : Nat) (hk : k < 16) :
    Calls Tryz.prog 116 #[.int .i64 k, .pointer (some ⟨b, 0, none⟩), .pointer (some ⟨c, 0, none⟩)] w fun e w' => e = .returned (.int .i64 (meetT t u k)) ∧ Below w.heap.size w w' := by
  have h1 := HT.cell k hk
  have h2 := HU.cell k hk
  go_enter Tryz.func116, Tryz.ntmps116
  go_wp2_with fail
  go_quiet (fail)
  go_wp2_with fail
  go_ret
  exact ⟨rfl, below_drewN (Below.refl _ _) _⟩
theorem impl_meet (t u : Nat → Int) (w : World) :
    Calls Tryz.prog 96 #[.agg (cs 16 t), .agg (cs 16 u)] w fun e w' => e = .returned (.agg (cs 16 (meetT t u))) ∧ Below w.heap.size w w' := by
  go_enter Tryz.func96, Tryz.ntmps96
  go_wp2_with fail
  refine (impl_makeTrans _ _ _ (meetT t u) _ (enters_of Tryz.func116 (by kernel_rfl) rfl) ?_).mono ?_
  · intro W k hk hb
    exact impl_meet1 t u _ _ W ((((Row.new w _ 16 t).old _).old _).grown hb) (((Row.newAt (w.alloc _) _ 16 u _ (by simp)).old _).grown hb) k hk
  rintro e w1 ⟨rfl, hb1⟩
  have HR0 : Row w1 (w.heap.size + 2) 95 16 (fun _ => 0) := (Row.zero16 _ _ _ (by simp)).grown hb1
  go_wp2_with (refine wp_store_Row rfl 95 _ _ rfl (w.heap.size + 2) rfl (f := meetT t u) rfl HR0 trans_i ?_)
  refine ret_Row rfl (w.heap.size + 2) rfl (HR0.setRow _) trans_u rfl trans_i rfl ⟨rfl, below_setRow ?_ (by omega) _⟩
  exact below_step (below_new (below_new (below_new (Below.refl _ _) _) _) _) hb1

theorem impl_join1 (t u : Nat → Int) (b c : Nat) (w : World) (HT : Row w b 95 16 t) (HU : Row w c 95 16 u) (k : Nat) (hk : k < 16) :
    Calls Tryz.prog 117 #[.int .i64 k, .pointer (some ⟨b, 0, none⟩), .pointer (some ⟨c, 0, none⟩)] w fun e w' => e = .returned (.int .i64 (joinT t u k)) ∧ Below w.heap.size w w' := by
  have h1 := HT.cell k hk
  have h2 := HU.cell k hk
  go_enter Tryz.func117, Tryz.ntmps117
  go_wp2_with fail
  go_quiet (fail)
  go_wp2_with fail
  go_ret
  exact ⟨rfl, below_drewN (Below.refl _ _) _⟩
theorem impl_join (t u : Nat → Int) (w : World) :
    Calls Tryz.prog 97 #[.agg (cs 16 t), .agg (cs 16 u)] w fun e w' => e = .returned (.agg (cs 16 (joinT t u))) ∧ Below w.heap.size w w' := by
  go_enter Tryz.func97, Tryz.ntmps97
  go_wp2_with fail
  refine (impl_makeTrans _ _ _ (joinT t u) _ (enters_of Tryz.func117 (by kernel_rfl) rfl) ?_).mono ?_
  · intro W k hk hb
    exact impl_join1 t u _ _ W ((((Row.new w _ 16 t).old _).old _).grown hb) (((Row.newAt (w.alloc _) _ 16 u _ (by simp)).old _).grown hb) k hk
  rintro e w1 ⟨rfl, hb1⟩
  have HR0 : Row w1 (w.heap.size + 2) 95 16 (fun _ => 0) := (Row.zero16 _ _ _ (by simp)).grown hb1
  go_wp2_with (refine wp_store_Row rfl 95 _ _ rfl (w.heap.size + 2) rfl (f := joinT t u) rfl HR0 trans_i ?_)
  refine ret_Row rfl (w.heap.size + 2) rfl (HR0.setRow _) trans_u rfl trans_i rfl ⟨rfl, below_setRow ?_ (by omega) _⟩
  exact below_step (below_new (below_new (below_new (Below.refl _ _) _) _) _) hb1

/-- what a transformer behind a relation's angel, and its demon, comes to -/
def behA (r u : Nat → Int) : Nat → Int := thenT (demonT (turn r)) u
def behD (r u : Nat → Int) : Nat → Int := thenT (angelT (turn r)) u
theorem behA_ok (r u : Nat → Int) : Cond (behA r u) := thenT_ok (demonT_ok _) u
theorem behD_ok (r u : Nat → Int) : Cond (behD r u) := thenT_ok (angelT_ok _) u

/-- how many states a condition has -/
def ones (p : Int) : Nat → Int
  | 0 => 0
  | k + 1 => ones p k + bits .and .i64 (p / 2 ^ k) 1
theorem ones_le {p : Int} (hp : C p) (k : Nat) (hk : k ≤ 4) : 0 ≤ ones p k ∧ ones p k ≤ k := by
  induction k with
  | zero => simp [ones]
  | succ k ih =>
    have h1 := ih (by omega)
    obtain ⟨a, rfl, ha⟩ := fit_nat hp.fit16
    have e : ((a : Int) / 2 ^ k) = ((a / 2 ^ k : Nat) : Int) := by push_cast; rfl
    have h2 : bits .and .i64 ((a : Int) / 2 ^ k) 1 = ((a / 2 ^ k &&& 1 : Nat) : Int) := by
      rw [e]; exact and_nat _ 1 (Nat.lt_of_le_of_lt (Nat.div_le_self _ _) ha) (by decide)
    have h3 : a / 2 ^ k &&& 1 ≤ 1 := Nat.and_le_right
    simp only [ones, h2]
    omega

/-- is each state related to one alone? -/
def isFn (r : Nat → Int) : Bool := (List.range 4).all fun s => ones (r s) 4 == 1
def fnTo (r : Nat → Int) (k : Nat) : Bool := (List.range k).all fun s => ones (r s) 4 == 1
theorem fnTo_succ (r : Nat → Int) (k : Nat) : fnTo r (k + 1) = (fnTo r k && (ones (r k) 4 == 1)) := by simp [fnTo, List.range_succ]
end Go.Proofs.YtaeibhpkcikaaaaGreatDoor

/- Sp12 -/
namespace Go.Proofs.YtaeibhpkcikaaaaGreatDoor
set_option linter.unusedVariables false
set_option linter.unusedSimpArgs false
open Go.RowKit Go.Shelf
set_option maxRecDepth 100000
set_option maxHeartbeats 1000000

/-- can one go before t that makes u of it? -/
def goB (t u : Nat → Int) : Bool := decide (txt 16 (thenT (mostT t u) t) = txt 16 u)
theorem goB_congr {t t' u u' : Nat → Int} (ht : Cond t') (a : Eq16 t t') (b : Eq16 u u') : goB t u = goB t' u' := by
  unfold goB
  rw [(Eq16.then (a.most b) a ht).txt, b.txt]

/-! ### the program's -/
/-- are two rows the same? -/
def eqT (n : Nat) (f g : Nat → Int) : Bool := (List.range n).all fun k => f k == g k
theorem run_eqItems_cs {P : Program} (w : World) (E d n : Nat) (f g : Nat → Int) (he : P.underlying E = some (.int .i64)) (hi : (P.info? E).map (·.size) = some 1) :
    ∀ is : List Nat, (∀ i ∈ is, i < n) → (Op.eqItems (d + 1) E 1 (cs n f) (cs n g) is).run P w = .ok (is.all fun k => f k == g k) w := by
  obtain ⟨I, hI, hz⟩ : ∃ I, P.info? E = some I ∧ I.size = 1 := by
    cases hq : P.info? E with
    | none => simp [hq] at hi
    | some I => exact ⟨I, rfl, by simpa [hq] using hi⟩
  intro is
  induction is with
  | nil => intro _; simp [Op.eqItems]
  | cons i is ih =>
    intro hall
    have hk := hall i (by simp)
    have h1 := ih fun j hj => hall j (by simp [hj])
    simp only [Op.eqItems, Sem.run_bind, List.all_cons]
    simp [Nat.mul_one, part, isAgg, sizeOf, typeInfo, hI, hz, run_underlying he, cs_get _ f i hk, cs_get _ g i hk, Op.equalIn]
    by_cases hb : f i = g i
    · simp [hb, h1]
    · simp [hb]
theorem run_equal_cs {P : Program} (w : World) (T E n d : Nat) (f g : Nat → Int) (hu : P.underlying T = some (.array n E)) (he : P.underlying E = some (.int .i64)) (hi : (P.info? E).map (·.size) = some 1) :
    (Op.equalIn (d + 2) T (.agg (cs n f)) (.agg (cs n g))).run P w = .ok (eqT n f g) w := by
  obtain ⟨I, hI, hz⟩ : ∃ I, P.info? E = some I ∧ I.size = 1 := by
    cases hq : P.info? E with
    | none => simp [hq] at hi
    | some I => exact ⟨I, rfl, by simpa [hq] using hi⟩
  have hc : P.cellsOf E = 1 := by simp [Program.cellsOf, hI, hz]
  rw [run_equalIn_array w (d + 1) _ _ hu hI, hc]
  exact run_eqItems_cs w E d n f g he hi _ fun i h => by simpa using h
theorem eqT_goB {f g : Nat → Int} (hf : Cond f) (hg : Cond g) : eqT 16 f g = decide (txt 16 f = txt 16 g) := by
  rw [Bool.eq_iff_iff, decide_eq_true_eq]
  simp only [eqT, List.all_eq_true, List.mem_range, beq_iff_eq]
  exact ⟨fun h => txt_ext h, fun h k hk => by rw [← val_txt 16 f hf k hk, h, val_txt 16 g hg k hk]⟩

end Go.Proofs.YtaeibhpkcikaaaaGreatDoor

/- Im14 -/
namespace Go.Proofs.YtaeibhpkcikaaaaGreatDoor
set_option linter.unusedVariables false
set_option linter.unusedSimpArgs false
open Go.RowKit Go.Shelf
set_option maxRecDepth 100000
set_option maxHeartbeats 1000000

/-- a table as a function on numbers -/
def onI (f : Nat → Int) (y : Int) : Int := f y.toNat

theorem impl_leastPoint (g : FuncId) (bv lb : Array Value) (f : Nat → Int) (hf : MonF (onI f)) (w : World) (eg : Enters Tryz.prog g) (hg : AsksI Tryz.prog g bv lb 16 f w) :
    Calls Tryz.prog 89 #[.func (.func g) bv lb] w fun e w' => e = .returned (.int .i64 (lfp (onI f))) ∧ Below w.heap.size w w' := by
  have eg' : ∀ args w, (callFunc g args).run Tryz.prog w = .ok (.enter g args) w := eg
  have HF := Lib.hid hf; clear hf
  go_enter Tryz.func89, Tryz.ntmps89
  go_wp2_with fail
  go_loopw [3] (fun o wr => ∃ (n k : Nat), k < 16 ∧ (k : Int) = iter (onI f) n 0 ∧ o = .int .i64 k ∧ Below w.heap.size w wr) (fun o _ => 4 - cnt (intOf o))
  case atStart => exact ⟨0, 0, by omega, rfl, rfl, Below.refl _ _⟩
  case round =>
    obtain ⟨n, k, hk, hn, rfl, hb⟩ := hrel
    have HN := Lib.hid hn; clear hn
    have HC := Lib.hid (HF.out.ok _ (c_nat hk))
    have e1 : onI f (k : Int) = f k := by unfold onI; simp
    rw [e1] at HC
    have E1 := Lib.hid e1; clear e1
    cases hz : (f k != (k : Int))
    · have HZ := Lib.hid hz; clear hz
      go_wp2_with fail
      refine (hg _ k hk hb).mono ?_
      rintro e w1 ⟨rfl, hb1⟩
      have e9 := HZ.out
      go_wp2_with fail
      go_ret
      refine ⟨ret_int ?_, below_step hb hb1⟩
      have h1 : f k = (k : Int) := by have := HZ.out; simpa using this
      rw [HN.out]
      refine lfp_eq HF.out ?_
      rw [← HN.out, E1.out, h1]
    · have HZ := Lib.hid hz; clear hz
      go_wp2_with fail
      refine (hg _ k hk hb).mono ?_
      rintro e w1 ⟨rfl, hb1⟩
      have e9 := HZ.out
      go_wp2_with fail
      refine (hg _ k hk (below_step hb hb1)).mono ?_
      rintro e w2 ⟨rfl, hb2⟩
      go_wp2_with fail
      have hne : f k ≠ (k : Int) := by have := HZ.out; simpa using this
      have hup : Sub (k : Int) (f k) := by rw [← E1.out, HN.out]; exact iter_up HF.out n
      have hlt := cnt_lt (c_nat hk) HC.out hup (Ne.symm hne)
      have hle := cnt_le (f k)
      have e2 : ((f k).toNat : Int) = f k := toNat_cast HC.out
      go_roundw
      case rel => exact ⟨n + 1, (f k).toNat, lt16 HC.out, by rw [e2, ← E1.out, HN.out]; rfl, by rw [e2], below_step (below_step hb hb1) hb2⟩
      case measure => simp [intOf]; omega

/-- a function of two conditions that the program names -/
def Asks2 (P : Program) (g : FuncId) (h : Int → Int → Int) : Prop := ∀ (W : World) (a b : Int), Calls P g #[.int .i64 a, .int .i64 b] W fun e W' => e = .returned (.int .i64 (h a b)) ∧ W = W'
/-- what is repeated: the least points of what h makes of a table and a condition -/
structure Reps (h : Int → Int → Int) (F : (Nat → Int) → Nat → Int) : Prop where
  pt : ∀ x k, k < 16 → F x k = lfp (onI fun j => h (x j) (k : Int))
  mon : ∀ (x : Nat → Int) (k : Nat), Cond x → mono x = true → k < 16 → MonF (onI fun j => h (x j) (k : Int))
  ok : ∀ x, Cond x → Cond (F x)

theorem iter_C {f : Int → Int} (h : ∀ y, C y → C (f y)) (n : Nat) : C (iter f n 0) := by
  induction n with
  | zero => exact C.zero
  | succ n ih => exact h _ ih
theorem reps_star : Reps (bits .or .i64) starT :=
  ⟨fun x k hk => starT_at hk, fun x k hx mx hk => MonF.star ⟨hx, mx⟩ (c_nat hk), fun x hx k => by
    unfold starT; split
    · exact iter_C (fun y hy => C.or (hx _) (c_nat (by assumption))) 4
    · exact C.zero⟩
theorem reps_omega : Reps (bits .and .i64) omegaT :=
  ⟨fun x k hk => omegaT_at hk, fun x k hx mx hk => MonF.omega ⟨hx, mx⟩ (c_nat hk), fun x hx k => by
    unfold omegaT; split
    · exact iter_C (fun y hy => C.and (hx _) (c_nat (by assumption))) 4
    · exact C.zero⟩

end Go.Proofs.YtaeibhpkcikaaaaGreatDoor
