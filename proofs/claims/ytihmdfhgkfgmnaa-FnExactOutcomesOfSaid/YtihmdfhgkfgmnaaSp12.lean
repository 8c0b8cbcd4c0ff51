/- Contracts: the reference's residuals; whether one can go before. -/
import Derived.Test.YtihmdfhgkfgmnaaIm12
import Derived.ChangeKeysEq
namespace Go.Proofs.Ytihmdfhgkfgmnaa
set_option linter.unusedVariables false
set_option linter.unusedSimpArgs false
open Go.RowKit Go.Shelf
set_option maxRecDepth 100000
set_option maxHeartbeats 1000000

/-- can one go before t that makes u of it? -/
def goB (t u : Nat → Int) : Bool := decide (txt 16 (thenT (mostT t u) t) = txt 16 u)
theorem goB_congr {t t' u u' : Nat → Int} (ht : Cond t') (a : Eq16 t t') (b : Eq16 u u') : goB t u = goB t' u' := by
  unfold goB
  rw [(Eq16.then (a.most b) a ht).txt, b.txt]

/-! ### the program's -/
/-- are two rows the same? -/
def eqT (n : Nat) (f g : Nat → Int) : Bool := (List.range n).all fun k => f k == g k
theorem run_eqItems_cs {P : Program} (w : World) (E d n : Nat) (f g : Nat → Int) (he : P.underlying E = some (.int .i64)) (hi : (P.info? E).map (·.size) = some 1) :
    ∀ is : List Nat, (∀ i ∈ is, i < n) → (Op.eqItems (d + 1) E 1 (cs n f) (cs n g) is).run P w = .ok (is.all fun k => f k == g k) w := by
  obtain ⟨I, hI, hz⟩ : ∃ I, P.info? E = some I ∧ I.size = 1 := by
    cases hq : P.info? E with
    | none => simp [hq] at hi
    | some I => exact ⟨I, rfl, by simpa [hq] using hi⟩
  intro is
  induction is with
  | nil => intro _; simp [Op.eqItems]
  | cons i is ih =>
    intro hall
    have hk := hall i (by simp)
    have h1 := ih fun j hj => hall j (by simp [hj])
    simp only [Op.eqItems, Sem.run_bind, List.all_cons]
    simp [Nat.mul_one, part, isAgg, sizeOf, typeInfo, hI, hz, run_underlying he, cs_get _ f i hk, cs_get _ g i hk, Op.equalIn]
    by_cases hb : f i = g i
    · simp [hb, h1]
    · simp [hb]
theorem run_equal_cs {P : Program} (w : World) (T E n d : Nat) (f g : Nat → Int) (hu : P.underlying T = some (.array n E)) (he : P.underlying E = some (.int .i64)) (hi : (P.info? E).map (·.size) = some 1) :
    (Op.equalIn (d + 2) T (.agg (cs n f)) (.agg (cs n g))).run P w = .ok (eqT n f g) w := by
  obtain ⟨I, hI, hz⟩ : ∃ I, P.info? E = some I ∧ I.size = 1 := by
    cases hq : P.info? E with
    | none => simp [hq] at hi
    | some I => exact ⟨I, rfl, by simpa [hq] using hi⟩
  have hc : P.cellsOf E = 1 := by simp [Program.cellsOf, hI, hz]
  rw [run_equalIn_array w (d + 1) _ _ hu hI, hc]
  exact run_eqItems_cs w E d n f g he hi _ fun i h => by simpa using h
theorem eqT_goB {f g : Nat → Int} (hf : Cond f) (hg : Cond g) : eqT 16 f g = decide (txt 16 f = txt 16 g) := by
  rw [Bool.eq_iff_iff, decide_eq_true_eq]
  simp only [eqT, List.all_eq_true, List.mem_range, beq_iff_eq]
  exact ⟨fun h => txt_ext h, fun h k hk => by rw [← val_txt 16 f hf k hk, h, val_txt 16 g hg k hk]⟩

end Go.Proofs.Ytihmdfhgkfgmnaa
