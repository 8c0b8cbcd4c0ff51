/- Contracts: the program's repetitions. -/
import Derived.Test.YtfeaeabhnkehcaaSp12
import Derived.Deep.RegionWith
namespace Go.Proofs.Ytfeaeabhnkehcaa
set_option linter.unusedVariables false
set_option linter.unusedSimpArgs false
open Go.RowKit Go.Shelf
set_option maxRecDepth 100000
set_option maxHeartbeats 1000000

/-- a table as a function on numbers -/
def onI (f : Nat → Int) (y : Int) : Int := f y.toNat

theorem impl_leastPoint (g : FuncId) (bv lb : Array Value) (f : Nat → Int) (hf : MonF (onI f)) (w : World) (eg : Enters Try.prog g) (hg : AsksI Try.prog g bv lb 16 f w) :
    Calls Try.prog 83 #[.func (.func g) bv lb] w fun e w' => e = .returned (.int .i64 (lfp (onI f))) ∧ Below w.heap.size w w' := by
  have eg' : ∀ args w, (callFunc g args).run Try.prog w = .ok (.enter g args) w := eg
  have HF := Lib.hid hf; clear hf
  go_enter Try.func83, Try.ntmps83
  go_wp2_with fail
  go_loopw [3] (fun o wr => ∃ (n k : Nat), k < 16 ∧ (k : Int) = iter (onI f) n 0 ∧ o = .int .i64 k ∧ Below w.heap.size w wr) (fun o _ => 4 - cnt (intOf o))
  case atStart => exact ⟨0, 0, by omega, rfl, rfl, Below.refl _ _⟩
  case round =>
    obtain ⟨n, k, hk, hn, rfl, hb⟩ := hrel
    have HN := Lib.hid hn; clear hn
    have HC := Lib.hid (HF.out.ok _ (c_nat hk))
    have e1 : onI f (k : Int) = f k := by unfold onI; simp
    rw [e1] at HC
    have E1 := Lib.hid e1; clear e1
    cases hz : (f k != (k : Int))
    · have HZ := Lib.hid hz; clear hz
      go_wp2_with fail
      refine (hg _ k hk hb).mono ?_
      rintro e w1 ⟨rfl, hb1⟩
      have e9 := HZ.out
      go_wp2_with fail
      go_ret
      refine ⟨ret_int ?_, below_step hb hb1⟩
      have h1 : f k = (k : Int) := by have := HZ.out; simpa using this
      rw [HN.out]
      refine lfp_eq HF.out ?_
      rw [← HN.out, E1.out, h1]
    · have HZ := Lib.hid hz; clear hz
      go_wp2_with fail
      refine (hg _ k hk hb).mono ?_
      rintro e w1 ⟨rfl, hb1⟩
      have e9 := HZ.out
      go_wp2_with fail
      refine (hg _ k hk (below_step hb hb1)).mono ?_
      rintro e w2 ⟨rfl, hb2⟩
      go_wp2_with fail
      have hne : f k ≠ (k : Int) := by have := HZ.out; simpa using this
      have hup : Sub (k : Int) (f k) := by rw [← E1.out, HN.out]; exact iter_up HF.out n
      have hlt := cnt_lt (c_nat hk) HC.out hup (Ne.symm hne)
      have hle := cnt_le (f k)
      have e2 : ((f k).toNat : Int) = f k := toNat_cast HC.out
      go_roundw
      case rel => exact ⟨n + 1, (f k).toNat, lt16 HC.out, by rw [e2, ← E1.out, HN.out]; rfl, by rw [e2], below_step (below_step hb hb1) hb2⟩
      case measure => simp [intOf]; omega

/-- a function of two conditions that the program names -/
def Asks2 (P : Program) (g : FuncId) (h : Int → Int → Int) : Prop := ∀ (W : World) (a b : Int), Calls P g #[.int .i64 a, .int .i64 b] W fun e W' => e = .returned (.int .i64 (h a b)) ∧ W = W'
theorem impl_or (W : World) (a b : Int) : Calls Try.prog 84 #[.int .i64 a, .int .i64 b] W fun e W' => e = .returned (.int .i64 (bits .or .i64 a b)) ∧ W = W' := by
  go_enter Try.func84, Try.ntmps84
  go_wp2_with fail
  go_ret
  exact ⟨rfl, rfl⟩
theorem impl_and (W : World) (a b : Int) : Calls Try.prog 85 #[.int .i64 a, .int .i64 b] W fun e W' => e = .returned (.int .i64 (bits .and .i64 a b)) ∧ W = W' := by
  go_enter Try.func85, Try.ntmps85
  go_wp2_with fail
  go_ret
  exact ⟨rfl, rfl⟩

theorem impl_star3 (x : Nat → Int) (q k : Nat) (hk : k < 16) (b c d : Nat) (h : Int → Int → Int) (g : FuncId) (w : World) (eg : Enters Try.prog g) (hg : Asks2 Try.prog g h)
    (HX : Row w c 44 16 x) (hb : w.cell? ⟨b, 0, none⟩ = some (.func (.func g) #[] #[])) (hd : w.cell? ⟨d, 0, none⟩ = some (.int .i64 q)) :
    Calls Try.prog 125 #[.int .i64 k, .pointer (some ⟨b, 0, none⟩), .pointer (some ⟨c, 0, none⟩), .pointer (some ⟨d, 0, none⟩)] w fun e w' => e = .returned (.int .i64 (h (x k) q)) ∧ Below w.heap.size w w' := by
  have eg' : ∀ args w, (callFunc g args).run Try.prog w = .ok (.enter g args) w := eg
  have h1 := HX.cell k hk
  go_enter Try.func125, Try.ntmps125
  go_wp2_with fail
  have hk1 : (0 : Int) ≤ (k : Int) := by omega
  have hk2 : (k : Int) < 16 := by omega
  go_quiet (exact Calls.quiet_of_same ((hg _ _ _).mono fun _ _ h => ⟨h.1, h.2.symm⟩))
  go_wp2_with fail
  go_ret
  exact ⟨rfl, below_drewN (Below.refl _ _) _⟩

/-- what is repeated: the least points of what h makes of a table and a condition -/
structure Reps (h : Int → Int → Int) (F : (Nat → Int) → Nat → Int) : Prop where
  pt : ∀ x k, k < 16 → F x k = lfp (onI fun j => h (x j) (k : Int))
  mon : ∀ (x : Nat → Int) (k : Nat), Cond x → mono x = true → k < 16 → MonF (onI fun j => h (x j) (k : Int))
  ok : ∀ x, Cond x → Cond (F x)

theorem impl_star2 (x : Nat → Int) (hx : Cond x) (mx : mono x = true) (q : Nat) (hq : q < 16) (b c d : Nat) (h : Int → Int → Int) (F : (Nat → Int) → Nat → Int) (hR : Reps h F) (g : FuncId) (w : World) (eg : Enters Try.prog g) (hg : Asks2 Try.prog g h)
    (HX : Row w d 44 16 x) (hb : w.cell? ⟨b, 0, none⟩ = some (.func (.func 83) #[] #[])) (hc : w.cell? ⟨c, 0, none⟩ = some (.func (.func g) #[] #[])) :
    Calls Try.prog 124 #[.int .i64 q, .pointer (some ⟨b, 0, none⟩), .pointer (some ⟨c, 0, none⟩), .pointer (some ⟨d, 0, none⟩)] w fun e w' => e = .returned (.int .i64 (F x q)) ∧ Below w.heap.size w w' := by
  have eg' : ∀ args w, (callFunc 83 args).run Try.prog w = .ok (.enter 83 args) w := enters_of Try.func83 (by kernel_rfl) rfl
  have hb' : ∀ o, (w.alloc o).cell? ⟨b, 0, none⟩ = some (.func (.func 83) #[] #[]) := fun o => cell_grown hb (below_new (Below.refl _ _) _)
  go_enter Try.func124, Try.ntmps124
  go_wp2_with fail
  refine (impl_leastPoint _ _ _ (fun k => h (x k) q) (hR.mon x q hx mx hq) _ (enters_of Try.func125 (by kernel_rfl) rfl) ?_).mono ?_
  · intro W k hk hW
    refine impl_star3 x q k hk _ _ _ h g W eg hg ((HX.old _).grown hW) (cell_grown (cell_grown hc (below_new (Below.refl _ _) _)) hW) ?_
    exact cell_grown (World.cell?_alloc_at _ _ _ _ rfl) hW
  rintro e w1 ⟨rfl, hb1⟩
  go_wp2_with fail
  go_ret
  exact ⟨ret_int (hR.pt x q hq).symm, below_step (below_new (Below.refl _ _) _) hb1⟩

theorem impl_star1 (x : Nat → Int) (hx : Cond x) (mx : mono x = true) (b c : Nat) (h : Int → Int → Int) (F : (Nat → Int) → Nat → Int) (hR : Reps h F) (g : FuncId) (w : World) (eg : Enters Try.prog g) (hg : Asks2 Try.prog g h)
    (hb : w.cell? ⟨b, 0, none⟩ = some (.func (.func 83) #[] #[])) (hc : w.cell? ⟨c, 0, none⟩ = some (.func (.func g) #[] #[])) :
    Calls Try.prog 123 #[.agg (cs 16 x), .pointer (some ⟨b, 0, none⟩), .pointer (some ⟨c, 0, none⟩)] w fun e w' => e = .returned (.agg (cs 16 (F x))) ∧ Below w.heap.size w w' := by
  go_enter Try.func123, Try.ntmps123
  go_wp2_with fail
  refine (impl_makeTrans _ _ _ (F x) _ (enters_of Try.func124 (by kernel_rfl) rfl) ?_).mono ?_
  · intro W q hq hW
    have hB : Below w.heap.size w W := below_step (below_new (below_new (Below.refl _ _) _) _) hW
    exact impl_star2 x hx mx q hq b c _ h F hR g W eg hg (((Row.new w _ 16 x).old _).grown hW) (cell_grown hb hB) (cell_grown hc hB)
  rintro e w1 ⟨rfl, hb1⟩
  have HR0 : Row w1 (w.heap.size + 1) 44 16 (fun _ => 0) := (Row.zero16 _ _ _ (by simp)).grown hb1
  go_wp2_with (refine wp_store_Row rfl 44 _ _ rfl (w.heap.size + 1) rfl (f := F x) rfl HR0 trans_i ?_)
  refine ret_Row rfl (w.heap.size + 1) rfl (HR0.setRow _) trans_u rfl trans_i rfl ⟨rfl, below_setRow ?_ (by omega) _⟩
  exact below_step (below_new (below_new (Below.refl _ _) _) _) hb1

theorem impl_star (t : ByteArray) (ht : t.size ≤ 4611686018427387904) (h : Int → Int → Int) (F : (Nat → Int) → Nat → Int) (hR : Reps h F) (g : FuncId) (w : World) (eg : Enters Try.prog g) (hg : Asks2 Try.prog g h) :
    Calls Try.prog 82 #[.string t, .func (.func 83) #[] #[], .func (.func g) #[] #[]] w fun e w' => e = .returned (.tuple #[.string (orNone (okTr t) (txt 16 (F (val t)))), .bool (okTr t)]) ∧ Below w.heap.size w w' := by
  go_enter Try.func82, Try.ntmps82
  go_wp2_with fail
  refine (impl_alone t ht _ #[] #[.pointer (some ⟨w.heap.size, 0, none⟩), .pointer (some ⟨w.heap.size + 1, 0, none⟩)] F (fun x hx => hR.ok x hx) _ (enters_of Try.func123 (by kernel_rfl) rfl) ?_).mono ?_
  · intro W x hx mx hW
    refine impl_star1 x hx mx _ _ h F hR g W eg hg (cell_grown (cell_grown (World.cell?_alloc_at _ _ _ _ rfl) (below_new (Below.refl _ _) _)) hW) (cell_grown (World.cell?_alloc_at _ _ _ _ (by simp)) hW)
  rintro e w1 ⟨rfl, hb1⟩
  go_wp2_with fail
  go_ret2
  exact ⟨rfl, below_step (below_new (below_new (Below.refl _ _) _) _) hb1⟩

theorem iter_C {f : Int → Int} (h : ∀ y, C y → C (f y)) (n : Nat) : C (iter f n 0) := by
  induction n with
  | zero => exact C.zero
  | succ n ih => exact h _ ih
theorem reps_star : Reps (bits .or .i64) starT :=
  ⟨fun x k hk => starT_at hk, fun x k hx mx hk => MonF.star ⟨hx, mx⟩ (c_nat hk), fun x hx k => by
    unfold starT; split
    · exact iter_C (fun y hy => C.or (hx _) (c_nat (by assumption))) 4
    · exact C.zero⟩
theorem reps_omega : Reps (bits .and .i64) omegaT :=
  ⟨fun x k hk => omegaT_at hk, fun x k hx mx hk => MonF.omega ⟨hx, mx⟩ (c_nat hk), fun x hx k => by
    unfold omegaT; split
    · exact iter_C (fun y hy => C.and (hx _) (c_nat (by assumption))) 4
    · exact C.zero⟩

theorem impl_AngelStar (t : ByteArray) (ht : t.size ≤ 4611686018427387904) (w : World) :
    Calls Try.prog 32 #[.string t] w fun e w' => e = .returned (.tuple #[.string (orNone (okTr t) (txt 16 (starT (val t)))), .bool (okTr t)]) ∧ Below w.heap.size w w' := by
  go_enter Try.func32, Try.ntmps32
  go_wp2_with fail
  refine (impl_star t ht _ starT reps_star 84 _ (enters_of Try.func84 (by kernel_rfl) rfl) (fun W a b => impl_or W a b)).mono ?_
  rintro e w1 ⟨rfl, hb1⟩
  go_wp2_with fail
  go_ret2
  exact ⟨rfl, hb1⟩
theorem impl_DemonOmega (t : ByteArray) (ht : t.size ≤ 4611686018427387904) (w : World) :
    Calls Try.prog 33 #[.string t] w fun e w' => e = .returned (.tuple #[.string (orNone (okTr t) (txt 16 (omegaT (val t)))), .bool (okTr t)]) ∧ Below w.heap.size w w' := by
  go_enter Try.func33, Try.ntmps33
  go_wp2_with fail
  refine (impl_star t ht _ omegaT reps_omega 85 _ (enters_of Try.func85 (by kernel_rfl) rfl) (fun W a b => impl_and W a b)).mono ?_
  rintro e w1 ⟨rfl, hb1⟩
  go_wp2_with fail
  go_ret2
  exact ⟨rfl, hb1⟩
end Go.Proofs.Ytfeaeabhnkehcaa
