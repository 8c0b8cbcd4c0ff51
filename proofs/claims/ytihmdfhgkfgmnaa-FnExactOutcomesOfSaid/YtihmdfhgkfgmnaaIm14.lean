/- Contracts: the program's repetitions. -/
import Derived.Test.YtihmdfhgkfgmnaaSp12
import Derived.Deep.RegionWith
namespace Go.Proofs.Ytihmdfhgkfgmnaa
set_option linter.unusedVariables false
set_option linter.unusedSimpArgs false
open Go.RowKit Go.Shelf
set_option maxRecDepth 100000
set_option maxHeartbeats 1000000

/-- a table as a function on numbers -/
def onI (f : Nat → Int) (y : Int) : Int := f y.toNat

theorem impl_leastPoint (g : FuncId) (bv lb : Array Value) (f : Nat → Int) (hf : MonF (onI f)) (w : World) (eg : Enters Try.prog g) (hg : AsksI Try.prog g bv lb 16 f w) :
    Calls Try.prog 84 #[.func (.func g) bv lb] w fun e w' => e = .returned (.int .i64 (lfp (onI f))) ∧ Below w.heap.size w w' := by
  have eg' : ∀ args w, (callFunc g args).run Try.prog w = .ok (.enter g args) w := eg
  have HF := Lib.hid hf; clear hf
  go_enter Try.func84, Try.ntmps84
  go_wp2_with fail
  go_loopw [3] (fun o wr => ∃ (n k : Nat), k < 16 ∧ (k : Int) = iter (onI f) n 0 ∧ o = .int .i64 k ∧ Below w.heap.size w wr) (fun o _ => 4 - cnt (intOf o))
  case atStart => exact ⟨0, 0, by omega, rfl, rfl, Below.refl _ _⟩
  case round =>
    obtain ⟨n, k, hk, hn, rfl, hb⟩ := hrel
    have HN := Lib.hid hn; clear hn
    have HC := Lib.hid (HF.out.ok _ (c_nat hk))
    have e1 : onI f (k : Int) = f k := by unfold onI; simp
    rw [e1] at HC
    have E1 := Lib.hid e1; clear e1
    cases hz : (f k != (k : Int))
    · have HZ := Lib.hid hz; clear hz
      go_wp2_with fail
      refine (hg _ k hk hb).mono ?_
      rintro e w1 ⟨rfl, hb1⟩
      have e9 := HZ.out
      go_wp2_with fail
      go_ret
      refine ⟨ret_int ?_, below_step hb hb1⟩
      have h1 : f k = (k : Int) := by have := HZ.out; simpa using this
      rw [HN.out]
      refine lfp_eq HF.out ?_
      rw [← HN.out, E1.out, h1]
    · have HZ := Lib.hid hz; clear hz
      go_wp2_with fail
      refine (hg _ k hk hb).mono ?_
      rintro e w1 ⟨rfl, hb1⟩
      have e9 := HZ.out
      go_wp2_with fail
      refine (hg _ k hk (below_step hb hb1)).mono ?_
      rintro e w2 ⟨rfl, hb2⟩
      go_wp2_with fail
      have hne : f k ≠ (k : Int) := by have := HZ.out; simpa using this
      have hup : Sub (k : Int) (f k) := by rw [← E1.out, HN.out]; exact iter_up HF.out n
      have hlt := cnt_lt (c_nat hk) HC.out hup (Ne.symm hne)
      have hle := cnt_le (f k)
      have e2 : ((f k).toNat : Int) = f k := toNat_cast HC.out
      go_roundw
      case rel => exact ⟨n + 1, (f k).toNat, lt16 HC.out, by rw [e2, ← E1.out, HN.out]; rfl, by rw [e2], below_step (below_step hb hb1) hb2⟩
      case measure => simp [intOf]; omega

/-- a function of two conditions that the program names -/
def Asks2 (P : Program) (g : FuncId) (h : Int → Int → Int) : Prop := ∀ (W : World) (a b : Int), Calls P g #[.int .i64 a, .int .i64 b] W fun e W' => e = .returned (.int .i64 (h a b)) ∧ W = W'
/-- what is repeated: the least points of what h makes of a table and a condition -/
structure Reps (h : Int → Int → Int) (F : (Nat → Int) → Nat → Int) : Prop where
  pt : ∀ x k, k < 16 → F x k = lfp (onI fun j => h (x j) (k : Int))
  mon : ∀ (x : Nat → Int) (k : Nat), Cond x → mono x = true → k < 16 → MonF (onI fun j => h (x j) (k : Int))
  ok : ∀ x, Cond x → Cond (F x)

theorem iter_C {f : Int → Int} (h : ∀ y, C y → C (f y)) (n : Nat) : C (iter f n 0) := by
  induction n with
  | zero => exact C.zero
  | succ n ih => exact h _ ih
theorem reps_star : Reps (bits .or .i64) starT :=
  ⟨fun x k hk => starT_at hk, fun x k hx mx hk => MonF.star ⟨hx, mx⟩ (c_nat hk), fun x hx k => by
    unfold starT; split
    · exact iter_C (fun y hy => C.or (hx _) (c_nat (by assumption))) 4
    · exact C.zero⟩
theorem reps_omega : Reps (bits .and .i64) omegaT :=
  ⟨fun x k hk => omegaT_at hk, fun x k hx mx hk => MonF.omega ⟨hx, mx⟩ (c_nat hk), fun x hx k => by
    unfold omegaT; split
    · exact iter_C (fun y hy => C.and (hx _) (c_nat (by assumption))) 4
    · exact C.zero⟩

end Go.Proofs.Ytihmdfhgkfgmnaa
