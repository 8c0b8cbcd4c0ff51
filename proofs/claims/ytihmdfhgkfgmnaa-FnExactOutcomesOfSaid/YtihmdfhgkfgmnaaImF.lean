/- Contracts: the program's families and what is chosen beside. -/
import Derived.Test.YtihmdfhgkfgmnaaIm11
import Derived.Test.YtihmdfhgkfgmnaaFam
namespace Go.Proofs.Ytihmdfhgkfgmnaa
set_option linter.unusedVariables false
set_option linter.unusedSimpArgs false
open Go.RowKit Go.Shelf
set_option maxRecDepth 100000
set_option maxHeartbeats 1000000

theorem impl_familyVal (g : FuncId) (bv lb : Array Value) (b : Nat → Bool) (w : World) (eg : Enters Try.prog g) (hg : AsksP Try.prog g bv lb 16 b w) :
    Calls Try.prog 111 #[.func (.func g) bv lb] w fun e w' => e = .returned (.int .i64 (mk b 16)) ∧ Below w.heap.size w w' := by
  have eg' : ∀ args w, (callFunc g args).run Try.prog w = .ok (.enter g args) w := eg
  go_enter Try.func111, Try.ntmps111
  go_wp2_with fail
  go_loopw [3, 5] (fun o i wr => ∃ k : Nat, k ≤ 16 ∧ i = .int .i64 k ∧ o = .int .i64 (mk b k) ∧ Below w.heap.size w wr) (fun _ i _ => 16 - (intOf i).toNat)
  case atStart => exact ⟨0, by omega, rfl, rfl, Below.refl _ _⟩
  case round =>
    obtain ⟨k, hk, rfl, rfl, hb⟩ := hrel
    by_cases hlt : k < 16
    · cases hbk : b k
      all_goals
        have H1 := Lib.hid hbk; clear hbk
        go_wp2_with fail
        refine (hg _ k hlt hb).mono ?_
        rintro e w1 ⟨rfl, hb1⟩
        rw [H1.out]
        go_wp2_with fail
        go_roundw
        case rel => exact ⟨k + 1, by omega, by go_num, by simp [mk, orf, H1.out, sh], hb.trans (hb1.mono hb.size)⟩
        case measure => simp [intOf]; omega
    · obtain rfl : k = 16 := by omega
      go_wp2_with fail
      go_ret
      exact ⟨rfl, hb⟩

theorem impl_tfamily1 (t : Nat → Int) (s : Nat) (hs : s < 4) (b c : Nat) (w : World) (HT : Row w b 46 16 t) (hc : w.cell? ⟨c, 0, none⟩ = some (.int .i64 s)) (p : Nat) (hp : p < 16) :
    Calls Try.prog 115 #[.int .i64 p, .pointer (some ⟨b, 0, none⟩), .pointer (some ⟨c, 0, none⟩)] w fun e w' => e = .returned (.bool (has (t p) s)) ∧ Below w.heap.size w w' := by
  have h1 := HT.cell p hp
  go_enter Try.func115, Try.ntmps115
  go_wp2_with fail
  go_quiet (fail)
  go_wp2_with fail
  go_ret
  exact ⟨ret_bool (by simp [has]), below_drewN (Below.refl _ _) _⟩

theorem impl_tfamily (t : Nat → Int) (s : Nat) (hs : s < 4) (w : World) :
    Calls Try.prog 52 #[.agg (cs 16 t), .int .i64 s] w fun e w' => e = .returned (.int .i64 (famT t s)) ∧ Below w.heap.size w w' := by
  go_enter Try.func52, Try.ntmps52
  go_wp2_with fail
  refine (impl_familyVal _ _ _ (fun p => has (t p) s) _ (enters_of Try.func115 (by kernel_rfl) rfl) ?_).mono ?_
  · intro W p hp hb
    exact impl_tfamily1 t s hs _ _ W ((Row.old (Row.new w _ 16 t) _).grown hb) ((hb.cell (p := ⟨w.heap.size + 1, 0, none⟩) (by simp)).trans (World.cell?_alloc_at _ _ _ _ (by simp))) p hp
  rintro e w1 ⟨rfl, hb1⟩
  go_wp2_with fail
  go_ret
  exact ⟨rfl, below_step (below_new (below_new (Below.refl _ _) _) _) hb1⟩

theorem impl_FamilyValid (f : Int) (hf : 0 ≤ f ∧ f ≤ 65535) (w : World) :
    Calls Try.prog 110 #[.int .i64 f] w fun e w' => e = .returned (.bool true) ∧ w = w' := by
  go_enter Try.func110, Try.ntmps110
  go_wp2_with fail
  go_ret
  exact ⟨ret_bool (by simp; omega), rfl⟩

/-- some condition of the family is one of b -/
def someP (f : Int) (b : Nat → Bool) : Bool := (List.range 16).any fun p => has f p && b p

theorem impl_some (f : Int) (g : FuncId) (bv lb : Array Value) (b : Nat → Bool) (w : World) (eg : Enters Try.prog g) (hg : AsksP Try.prog g bv lb 16 b w) :
    Calls Try.prog 113 #[.int .i64 f, .func (.func g) bv lb] w fun e w' => e = .returned (.bool (someP f b)) ∧ Below w.heap.size w w' := by
  have eg' : ∀ args w, (callFunc g args).run Try.prog w = .ok (.enter g args) w := eg
  go_enter Try.func113, Try.ntmps113
  go_wp2_with fail
  go_loopw [6] (fun i wr => ∃ k : Nat, k ≤ 16 ∧ i = .int .i64 k ∧ ((List.range k).any fun p => has f p && b p) = false ∧ Below w.heap.size w wr) (fun i _ => 16 - (intOf i).toNat)
  case atStart => exact ⟨0, by omega, rfl, rfl, Below.refl _ _⟩
  case round =>
    obtain ⟨k, hk, rfl, hno, hb⟩ := hrel
    by_cases hlt : k < 16
    · have e0 : has f k = (bits .and .i64 (f / 2 ^ k) 1 == 1) := by simp [has, go_sem]
      cases hfk : has f k
      · have H1 := Lib.hid hfk
        have e1 : (bits .and .i64 (f / 2 ^ k) 1 == 1) = false := e0 ▸ hfk
        clear hfk e0
        go_wp2_with fail
        go_roundw
        case rel => exact ⟨k + 1, by omega, by go_num, by rw [List.range_succ, List.any_append, hno]; simp [H1.out], hb⟩
        case measure => simp [intOf]; omega
      · have e1 : (bits .and .i64 (f / 2 ^ k) 1 == 1) = true := e0 ▸ hfk
        have H1 := Lib.hid hfk
        clear hfk e0
        cases hbk : b k
        all_goals
          have H2 := Lib.hid hbk; clear hbk
          go_wp2_with fail
          refine (hg _ k hlt hb).mono ?_
          rintro e w1 ⟨rfl, hb1⟩
          rw [H2.out]
          go_wp2_with fail
        · go_roundw
          case rel => exact ⟨k + 1, by omega, by go_num, by rw [List.range_succ, List.any_append, hno]; simp [H2.out], hb.trans (hb1.mono hb.size)⟩
          case measure => simp [intOf]; omega
        · go_ret
          refine ⟨ret_bool ?_, hb.trans (hb1.mono hb.size)⟩
          unfold someP
          rw [eq_comm, List.any_eq_true]
          exact ⟨k, by simpa using hlt, by rw [H1.out, H2.out]; rfl⟩
    · obtain rfl : k = 16 := by omega
      go_wp2_with fail
      go_ret
      exact ⟨ret_bool hno.symm, hb⟩

theorem fam_u : Try.prog.underlying 38 = some (.array 4 3) := Try.underlying38
theorem fam_i : (Try.prog.info? 38).map (·.size) = some 4 := by kernel_rfl

theorem op_store_Int {P : Program} {o : Oper} {a : Act} {w : World} {K : Act → World → Prop} {Q : Exit → Act → World → Prop} (ty : TypeId) (x y : Operand) (ho : o.op = .store ty x y)
    (g i : Nat) (hx : a.eval x = .pointer (some ⟨g, i, none⟩)) {v : Int} (hy : a.eval y = .int .i64 v) {t : TypeId} {n : Nat} {f : Nat → Int} (hg : Row w g t n f) (hi : i < n) (hz : (P.info? ty).map (·.size) = some 1)
    (h : K (a.put o.dst undef) (w.setCell ⟨g, i, none⟩ (.int .i64 v))) : o.wp P a w K Q := by
  have hc := hg.cell i hi
  have hf := hg.free i
  unfold Oper.wp execOp
  cases hI : P.info? ty with
  | none => simp [hI] at hz
  | some I =>
    have hz' : I.size = 1 := by simpa [hI] using hz
    simp only [ho, hx, hy, Instr.storeAt, Instr.sureAddr, Sem.run_bind, Sem.run_pure, Result.andThen_ok]
    simp [go_sem, storeVar, sizeOf, typeInfo, hI, hz', hc, hf]
    exact h

end Go.Proofs.Ytihmdfhgkfgmnaa
