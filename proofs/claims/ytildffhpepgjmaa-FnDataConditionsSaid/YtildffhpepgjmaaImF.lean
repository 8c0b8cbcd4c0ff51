/- Contracts: the program's families and what is chosen beside. -/
import Derived.Test.YtildffhpepgjmaaIm11
import Derived.Test.YtildffhpepgjmaaFam
namespace Go.Proofs.Ytildffhpepgjmaa
set_option linter.unusedVariables false
set_option linter.unusedSimpArgs false
open Go.RowKit Go.Shelf
set_option maxRecDepth 100000
set_option maxHeartbeats 1000000

theorem impl_familyVal (g : FuncId) (bv lb : Array Value) (b : Nat → Bool) (w : World) (eg : Enters Try.prog g) (hg : AsksP Try.prog g bv lb 16 b w) :
    Calls Try.prog 143 #[.func (.func g) bv lb] w fun e w' => e = .returned (.int .i64 (mk b 16)) ∧ Below w.heap.size w w' := by
  have eg' : ∀ args w, (callFunc g args).run Try.prog w = .ok (.enter g args) w := eg
  go_enter Try.func143, Try.ntmps143
  go_wp2_with fail
  go_loopw [3, 5] (fun o i wr => ∃ k : Nat, k ≤ 16 ∧ i = .int .i64 k ∧ o = .int .i64 (mk b k) ∧ Below w.heap.size w wr) (fun _ i _ => 16 - (intOf i).toNat)
  case atStart => exact ⟨0, by omega, rfl, rfl, Below.refl _ _⟩
  case round =>
    obtain ⟨k, hk, rfl, rfl, hb⟩ := hrel
    by_cases hlt : k < 16
    · cases hbk : b k
      all_goals
        have H1 := Lib.hid hbk; clear hbk
        go_wp2_with fail
        refine (hg _ k hlt hb).mono ?_
        rintro e w1 ⟨rfl, hb1⟩
        rw [H1.out]
        go_wp2_with fail
        go_roundw
        case rel => exact ⟨k + 1, by omega, by go_num, by simp [mk, orf, H1.out, sh], hb.trans (hb1.mono hb.size)⟩
        case measure => simp [intOf]; omega
    · obtain rfl : k = 16 := by omega
      go_wp2_with fail
      go_ret
      exact ⟨rfl, hb⟩

theorem impl_tfamily1 (t : Nat → Int) (s : Nat) (hs : s < 4) (b c : Nat) (w : World) (HT : Row w b 52 16 t) (hc : w.cell? ⟨c, 0, none⟩ = some (.int .i64 s)) (p : Nat) (hp : p < 16) :
    Calls Try.prog 144 #[.int .i64 p, .pointer (some ⟨b, 0, none⟩), .pointer (some ⟨c, 0, none⟩)] w fun e w' => e = .returned (.bool (has (t p) s)) ∧ Below w.heap.size w w' := by
  have h1 := HT.cell p hp
  go_enter Try.func144, Try.ntmps144
  go_wp2_with fail
  go_quiet (fail)
  go_wp2_with fail
  go_ret
  exact ⟨ret_bool (by simp [has]), below_drewN (Below.refl _ _) _⟩

theorem impl_tfamily (t : Nat → Int) (s : Nat) (hs : s < 4) (w : World) :
    Calls Try.prog 120 #[.agg (cs 16 t), .int .i64 s] w fun e w' => e = .returned (.int .i64 (famT t s)) ∧ Below w.heap.size w w' := by
  go_enter Try.func120, Try.ntmps120
  go_wp2_with fail
  refine (impl_familyVal _ _ _ (fun p => has (t p) s) _ (enters_of Try.func144 (by kernel_rfl) rfl) ?_).mono ?_
  · intro W p hp hb
    exact impl_tfamily1 t s hs _ _ W ((Row.old (Row.new w _ 16 t) _).grown hb) ((hb.cell (p := ⟨w.heap.size + 1, 0, none⟩) (by simp)).trans (World.cell?_alloc_at _ _ _ _ (by simp))) p hp
  rintro e w1 ⟨rfl, hb1⟩
  go_wp2_with fail
  go_ret
  exact ⟨rfl, below_step (below_new (below_new (Below.refl _ _) _) _) hb1⟩

theorem impl_FamilyValid (f : Int) (hf : 0 ≤ f ∧ f ≤ 65535) (w : World) :
    Calls Try.prog 153 #[.int .i64 f] w fun e w' => e = .returned (.bool true) ∧ w = w' := by
  go_enter Try.func153, Try.ntmps153
  go_wp2_with fail
  go_ret
  exact ⟨ret_bool (by simp; omega), rfl⟩

/-- some condition of the family is one of b -/
def someP (f : Int) (b : Nat → Bool) : Bool := (List.range 16).any fun p => has f p && b p

theorem impl_some (f : Int) (g : FuncId) (bv lb : Array Value) (b : Nat → Bool) (w : World) (eg : Enters Try.prog g) (hg : AsksP Try.prog g bv lb 16 b w) :
    Calls Try.prog 155 #[.int .i64 f, .func (.func g) bv lb] w fun e w' => e = .returned (.bool (someP f b)) ∧ Below w.heap.size w w' := by
  have eg' : ∀ args w, (callFunc g args).run Try.prog w = .ok (.enter g args) w := eg
  go_enter Try.func155, Try.ntmps155
  go_wp2_with fail
  go_loopw [6] (fun i wr => ∃ k : Nat, k ≤ 16 ∧ i = .int .i64 k ∧ ((List.range k).any fun p => has f p && b p) = false ∧ Below w.heap.size w wr) (fun i _ => 16 - (intOf i).toNat)
  case atStart => exact ⟨0, by omega, rfl, rfl, Below.refl _ _⟩
  case round =>
    obtain ⟨k, hk, rfl, hno, hb⟩ := hrel
    by_cases hlt : k < 16
    · have e0 : has f k = (bits .and .i64 (f / 2 ^ k) 1 == 1) := by simp [has, go_sem]
      cases hfk : has f k
      · have H1 := Lib.hid hfk
        have e1 : (bits .and .i64 (f / 2 ^ k) 1 == 1) = false := e0 ▸ hfk
        clear hfk e0
        go_wp2_with fail
        go_roundw
        case rel => exact ⟨k + 1, by omega, by go_num, by rw [List.range_succ, List.any_append, hno]; simp [H1.out], hb⟩
        case measure => simp [intOf]; omega
      · have e1 : (bits .and .i64 (f / 2 ^ k) 1 == 1) = true := e0 ▸ hfk
        have H1 := Lib.hid hfk
        clear hfk e0
        cases hbk : b k
        all_goals
          have H2 := Lib.hid hbk; clear hbk
          go_wp2_with fail
          refine (hg _ k hlt hb).mono ?_
          rintro e w1 ⟨rfl, hb1⟩
          rw [H2.out]
          go_wp2_with fail
        · go_roundw
          case rel => exact ⟨k + 1, by omega, by go_num, by rw [List.range_succ, List.any_append, hno]; simp [H2.out], hb.trans (hb1.mono hb.size)⟩
          case measure => simp [intOf]; omega
        · go_ret
          refine ⟨ret_bool ?_, hb.trans (hb1.mono hb.size)⟩
          unfold someP
          rw [eq_comm, List.any_eq_true]
          exact ⟨k, by simpa using hlt, by rw [H1.out, H2.out]; rfl⟩
    · obtain rfl : k = 16 := by omega
      go_wp2_with fail
      go_ret
      exact ⟨ret_bool hno.symm, hb⟩

theorem impl_CloseUp2 (p : Nat) (q : Nat) (c : Nat) (w : World) (hc : w.cell? ⟨c, 0, none⟩ = some (.int .i64 q)) :
    Calls Try.prog 156 #[.int .i64 p, .pointer (some ⟨c, 0, none⟩)] w fun e w' => e = .returned (.bool (bits .andNot .i64 (p : Int) (q : Int) == 0)) ∧ Below w.heap.size w w' := by
  go_enter Try.func156, Try.ntmps156
  go_wp2_with fail
  go_ret
  exact ⟨rfl, Below.refl _ _⟩

theorem impl_CloseUp1 (f : Int) (q : Nat) (c : Nat) (w : World) (hc : w.cell? ⟨c, 0, none⟩ = some (.int .i64 f)) :
    Calls Try.prog 154 #[.int .i64 q, .pointer (some ⟨c, 0, none⟩)] w fun e w' => e = .returned (.bool (someP f fun p => bits .andNot .i64 (p : Int) (q : Int) == 0)) ∧ Below w.heap.size w w' := by
  have hc' : ∀ o, (w.alloc o).cell? ⟨c, 0, none⟩ = some (.int .i64 f) := fun o => cell_grown hc (below_new (Below.refl _ _) _)
  go_enter Try.func154, Try.ntmps154
  go_wp2_with fail
  refine (impl_some f _ _ _ (fun p => bits .andNot .i64 (p : Int) (q : Int) == 0) _ (enters_of Try.func156 (by kernel_rfl) rfl) ?_).mono ?_
  · intro W p hp hb
    exact impl_CloseUp2 p q _ W ((hb.cell (p := ⟨w.heap.size, 0, none⟩) (by simp)).trans (World.cell?_alloc_at _ _ _ _ rfl))
  rintro e w1 ⟨rfl, hb1⟩
  go_wp2_with fail
  go_ret
  exact ⟨rfl, below_step (below_new (Below.refl _ _) _) hb1⟩

theorem impl_CloseUp (f : Int) (hf : 0 ≤ f ∧ f ≤ 65535) (w : World) :
    Calls Try.prog 145 #[.int .i64 f] w fun e w' => e = .returned (.int .i64 (closeF f)) ∧ Below w.heap.size w w' := by
  go_enter Try.func145, Try.ntmps145
  go_wp2_with fail
  refine (impl_FamilyValid _ hf _).mono ?_
  rintro e w' ⟨rfl, rfl⟩
  go_wp2_with fail
  refine (impl_familyVal _ _ _ (fun q => someP f fun p => bits .andNot .i64 (p : Int) (q : Int) == 0) _ (enters_of Try.func154 (by kernel_rfl) rfl) ?_).mono ?_
  · intro W q hq hb
    exact impl_CloseUp1 f q _ W ((hb.cell (p := ⟨w.heap.size, 0, none⟩) (by simp)).trans (World.cell?_alloc_at _ _ _ _ rfl))
  rintro e w1 ⟨rfl, hb1⟩
  go_wp2_with fail
  go_ret
  exact ⟨rfl, below_step (below_new (Below.refl _ _) _) hb1⟩

theorem impl_transOf2 (fam : Nat → Int) (s : Nat) (hs : s < 4) (p : Nat) (b c : Nat) (w : World) (HF : Row w b 44 4 fam) (hc : w.cell? ⟨c, 0, none⟩ = some (.int .i64 p)) (hp : p < 16) :
    Calls Try.prog 147 #[.int .i64 s, .pointer (some ⟨b, 0, none⟩), .pointer (some ⟨c, 0, none⟩)] w fun e w' => e = .returned (.bool (has (fam s) p)) ∧ Below w.heap.size w w' := by
  have h1 := HF.cell s hs
  go_enter Try.func147, Try.ntmps147
  go_wp2_with fail
  go_quiet (fail)
  go_wp2_with fail
  go_ret
  exact ⟨ret_bool (by simp [has]), below_drewN (Below.refl _ _) _⟩

theorem impl_transOf1 (fam : Nat → Int) (p : Nat) (hp : p < 16) (b : Nat) (w : World) (HF : Row w b 44 4 fam) :
    Calls Try.prog 146 #[.int .i64 p, .pointer (some ⟨b, 0, none⟩)] w fun e w' => e = .returned (.int .i64 (mk (fun s => has (fam s) p) 4)) ∧ Below w.heap.size w w' := by
  go_enter Try.func146, Try.ntmps146
  go_wp2_with fail
  refine (impl_states _ _ _ (fun s => has (fam s) p) _ (enters_of Try.func147 (by kernel_rfl) rfl) ?_).mono ?_
  · intro W s hs hb
    exact impl_transOf2 fam s hs p _ _ W ((HF.old _).grown hb) ((hb.cell (p := ⟨w.heap.size, 0, none⟩) (by simp)).trans (World.cell?_alloc_at _ _ _ _ rfl)) hp
  rintro e w1 ⟨rfl, hb1⟩
  go_wp2_with fail
  go_ret
  exact ⟨rfl, below_step (below_new (Below.refl _ _) _) hb1⟩

theorem fam_u : Try.prog.underlying 44 = some (.array 4 3) := Try.underlying44
theorem fam_i : (Try.prog.info? 44).map (·.size) = some 4 := by kernel_rfl

theorem impl_transOf (fam : Nat → Int) (hf : ∀ s, Fit 16 (fam s)) (w : World) :
    Calls Try.prog 121 #[.agg (cs 4 fam)] w fun e w' => e = .returned (.agg (cs 16 (transOfT fam))) ∧ Below w.heap.size w w' := by
  have HF := Lib.hid hf; clear hf
  have R1 : ∀ o, Row ((w.alloc (.cells (cs 4 fam) 44)).alloc o) w.heap.size 44 4 fam := fun o => (Row.new w _ 4 fam).old _
  go_enter Try.func121, Try.ntmps121
  go_wp2_with (refine wp_load_Row rfl 44 _ rfl w.heap.size rfl (R1 _) fam_u rfl fam_i ?_)
  rw [← cs16_zero]
  go_loopw [6] (fun i wr => ∃ (k : Nat) (h : Nat → Int), k ≤ 4 ∧ i = .int .i64 k ∧ Hid (∀ j, j < 4 → h j = if j < k then closeF (fam j) else fam j) ∧ Row wr w.heap.size 44 4 h ∧ Row wr (w.heap.size + 1) 52 16 (fun _ => 0) ∧ Below w.heap.size w wr) (fun i _ => 4 - (intOf i).toNat)
  case atStart => exact ⟨0, fam, by omega, rfl, fun j hj => by simp, (Row.new w _ 4 fam).old _, Row.newAt (w.alloc _) _ 16 _ _ (by simp), below_new (below_new (Below.refl _ _) _) _⟩
  case round =>
    obtain ⟨k, h, hk, rfl, H, HR, HR0, hb⟩ := hrel
    clear R1
    by_cases hlt : k < 4
    · have hx := fun W => run_index_cs (P := Try.prog) W 44 3 4 fam k .i64 hlt fam_u Try.underlying3 (by kernel_rfl)
      go_wp2_with fail
      refine (impl_CloseUp _ (fit16_le (HF.out k)) _).mono ?_
      rintro e w1 ⟨rfl, hb1⟩
      have hc := (HR.grown hb1).cell k hlt
      have hf := (HR.grown hb1).free k
      go_wp2_with fail
      go_roundw
      case rel => exact ⟨k + 1, upd h k (closeF (fam k)), by omega, by go_num, fun j hj => by
        rcases Nat.lt_trichotomy j k with hj2 | hj2 | hj2
        · rw [upd_other _ _ _ _ (by omega), H.out j hj, if_pos hj2, if_pos (by omega)]
        · subst hj2; rw [upd_same, if_pos (by omega)]
        · rw [upd_other _ _ _ _ (by omega), H.out j hj, if_neg (by omega), if_neg (by omega)], (HR.grown hb1).set k _, (HR0.grown hb1).setAt _ _ _ (by omega), below_setAt (below_step hb hb1) _ _ (by omega) _⟩
      case measure => simp [intOf]; omega
    · obtain rfl : k = 4 := by omega
      have HG : ∀ j, j < 4 → h j = closeF (fam j) := fun j hj => by rw [H.out j hj, if_pos hj]
      go_wp2_with fail
      refine (impl_makeTrans _ _ _ (transOfT fam) _ (enters_of Try.func146 (by kernel_rfl) rfl) ?_).mono ?_
      · intro W p hp hb1
        exact impl_transOf1 (fun s => closeF (fam s)) p hp _ W ((HR.grown hb1).ext HG)
      rintro e w1 ⟨rfl, hb1⟩
      go_wp2_with (refine wp_store_Row rfl 52 _ _ rfl (w.heap.size + 1) rfl (f := transOfT fam) rfl (HR0.grown hb1) trans_i ?_)
      refine ret_Row rfl (w.heap.size + 1) rfl ((HR0.grown hb1).setRow _) trans_u rfl trans_i rfl ⟨rfl, below_setRow (below_step hb hb1) (by omega) _⟩

theorem op_store_Int {P : Program} {o : Oper} {a : Act} {w : World} {K : Act → World → Prop} {Q : Exit → Act → World → Prop} (ty : TypeId) (x y : Operand) (ho : o.op = .store ty x y)
    (g i : Nat) (hx : a.eval x = .pointer (some ⟨g, i, none⟩)) {v : Int} (hy : a.eval y = .int .i64 v) {t : TypeId} {n : Nat} {f : Nat → Int} (hg : Row w g t n f) (hi : i < n) (hz : (P.info? ty).map (·.size) = some 1)
    (h : K (a.put o.dst undef) (w.setCell ⟨g, i, none⟩ (.int .i64 v))) : o.wp P a w K Q := by
  have hc := hg.cell i hi
  have hf := hg.free i
  unfold Oper.wp execOp
  cases hI : P.info? ty with
  | none => simp [hI] at hz
  | some I =>
    have hz' : I.size = 1 := by simpa [hI] using hz
    simp only [ho, hx, hy, Instr.storeAt, Instr.sureAddr, Sem.run_bind, Sem.run_pure, Result.andThen_ok]
    simp [go_sem, storeVar, sizeOf, typeInfo, hI, hz', hc, hf]
    exact h

theorem impl_besideAngel (t u : Nat → Int) (w : World) :
    Calls Try.prog 81 #[.agg (cs 16 t), .agg (cs 16 u)] w fun e w' => e = .returned (.agg (cs 16 (besideT t u))) ∧ Below w.heap.size w w' := by
  go_enter Try.func81, Try.ntmps81
  go_wp2_with fail
  rw [← cs16_zero, ← cs4_zero]
  obtain ⟨W0, HT, HU, HZ, HF, hb, hW⟩ : ∃ W, Row W w.heap.size 52 16 t ∧ Row W (w.heap.size + 1) 52 16 u ∧ Row W (w.heap.size + 1 + 1) 52 16 (fun _ => 0) ∧ Row W (w.heap.size + 1 + 1 + 1) 44 4 (fun _ => 0) ∧ Below w.heap.size w W ∧
      (((w.alloc (.cells (cs 16 t) 52)).alloc (.cells (cs 16 u) 52)).alloc (.cells (cs 16 fun _ => 0) 52)).alloc (.cells (cs 4 fun _ => 0) 44) = W :=
    ⟨_, (((Row.new w _ 16 t).old _).old _).old _, ((Row.newAt (w.alloc _) _ 16 u _ (by simp)).old _).old _, (Row.newAt ((w.alloc _).alloc _) _ 16 _ _ (by simp)).old _, Row.newAt (((w.alloc _).alloc _).alloc _) _ 4 _ _ (by simp), below_new (below_new (below_new (below_new (Below.refl _ _) _) _) _) _, rfl⟩
  rw [hW]; clear hW
  go_loopw [8] (fun i wr => ∃ (k : Nat) (h : Nat → Int), k ≤ 4 ∧ i = .int .i64 k ∧ Hid (∀ j, j < k → h j = missT t u j) ∧ Row wr w.heap.size 52 16 t ∧ Row wr (w.heap.size + 1) 52 16 u ∧ Row wr (w.heap.size + 1 + 1) 52 16 (fun _ => 0) ∧ Row wr (w.heap.size + 1 + 1 + 1) 44 4 h ∧ Below w.heap.size w wr) (fun i _ => 4 - (intOf i).toNat)
  case atStart => exact ⟨0, fun _ => 0, by omega, rfl, fun j hj => by omega, HT, HU, HZ, HF, hb⟩
  case round =>
    clear HT HU HZ HF hb
    obtain ⟨k, h, hk, rfl, H, HT, HU, HZ, HF, hb⟩ := hrel
    by_cases hlt : k < 4
    · go_wp2_with fail
      refine wp_region_held_drew (S := fun W => Row W w.heap.size 52 16 t ∧ Row W (w.heap.size + 1) 52 16 u ∧ Row W (w.heap.size + 1 + 1) 52 16 (fun _ => 0) ∧ (∃ h' : Nat → Int, (∀ j, j < k → h' j = h j) ∧ Row W (w.heap.size + 1 + 1 + 1) 44 4 h') ∧ Below w.heap.size w W) (by kernel_rfl) ?_ (fun hS => ?_)
      · exact ⟨HT.drew, HU.drew, HZ.drew, ⟨h, fun _ _ => rfl, HF.drew⟩, hb.drew⟩
      refine wpAnyH_take (i := 0) (v := .int .i64 k) rfl (by kernel_rfl) (by kernel_rfl) (by kernel_rfl) (fun _ _ _ h => h) (Or.inl ⟨by rfl, ?_⟩) hS ?_
      · intro w hSw
        go_simp
      simp only [Act.put, List.getElem_toArray, List.getElem_cons_succ, List.getElem_cons_zero, List.setIfInBounds_toArray, List.set_cons_zero, List.set_cons_succ]
      refine wpAnyH_take (i := 1) (v := .agg (cs 16 (u))) rfl (by kernel_rfl) (by kernel_rfl) (by kernel_rfl) (fun _ _ _ h => h) (yields_Row (by rfl) _ _ rfl (w.heap.size + 1) rfl (fun _ h => h.2.1) trans_u rfl trans_i) hS ?_
      simp only [Act.put, List.getElem_toArray, List.getElem_cons_succ, List.getElem_cons_zero, List.setIfInBounds_toArray, List.set_cons_zero, List.set_cons_succ]
      refine wpAnyH_take (i := 2) (v := .int .i64 k) rfl (by kernel_rfl) (by kernel_rfl) (by kernel_rfl) (fun _ _ _ h => h) (Or.inl ⟨by rfl, ?_⟩) hS ?_
      · intro w hSw
        go_simp
      simp only [Act.put, List.getElem_toArray, List.getElem_cons_succ, List.getElem_cons_zero, List.setIfInBounds_toArray, List.set_cons_zero, List.set_cons_succ]
      refine wpAnyH_take (i := 4) (v := .agg (cs 16 (t))) rfl (by kernel_rfl) (by kernel_rfl) (by kernel_rfl) (fun _ _ _ h => h) (yields_Row (by rfl) _ _ rfl (w.heap.size) rfl (fun _ h => h.1) trans_u rfl trans_i) hS ?_
      simp only [Act.put, List.getElem_toArray, List.getElem_cons_succ, List.getElem_cons_zero, List.setIfInBounds_toArray, List.set_cons_zero, List.set_cons_succ]
      refine wpAnyH_take (i := 5) (v := .int .i64 k) rfl (by kernel_rfl) (by kernel_rfl) (by kernel_rfl) (fun _ _ _ h => h) (Or.inl ⟨by rfl, ?_⟩) hS ?_
      · intro w hSw
        go_simp
      simp only [Act.put, List.getElem_toArray, List.getElem_cons_succ, List.getElem_cons_zero, List.setIfInBounds_toArray, List.set_cons_zero, List.set_cons_succ]
      refine wpAnyH_ready (rs := [3]) (by kernel_rfl) (by simp) ?_
      refine AllReadyH.cons rfl (fun K hK => ?_) AllReadyH.nil
      rw [if_pos (by rfl)]
      refine op_call 120 _ _ rfl (enters_of Try.func120 (by kernel_rfl) rfl) _ (impl_tfamily u k hlt _) rfl ?_
      rintro e w1 ⟨rfl, hb1⟩
      refine ⟨_, rfl, ?_⟩
      refine hK.out _ _ ?_ (fun hS1 => ?_)
      · exact ⟨hS.1.grown hb1, hS.2.1.grown hb1, hS.2.2.1.grown hb1, ⟨_, hS.2.2.2.1.choose_spec.1, hS.2.2.2.1.choose_spec.2.grown hb1⟩, below_step hS.2.2.2.2 hb1⟩
      clear hK K
      replace hS := hS1
      clear hS1
      simp only [Act.put, List.getElem_toArray, List.getElem_cons_succ, List.getElem_cons_zero, List.setIfInBounds_toArray, List.set_cons_zero, List.set_cons_succ]
      refine wpAnyH_ready (rs := [6]) (by kernel_rfl) (by simp) ?_
      refine AllReadyH.cons rfl (fun K hK => ?_) AllReadyH.nil
      rw [if_pos (by rfl)]
      refine op_call 120 _ _ rfl (enters_of Try.func120 (by kernel_rfl) rfl) _ (impl_tfamily t k hlt _) rfl ?_
      rintro e w2 ⟨rfl, hb2⟩
      refine ⟨_, rfl, ?_⟩
      refine hK.out _ _ ?_ (fun hS1 => ?_)
      · exact ⟨hS.1.grown hb2, hS.2.1.grown hb2, hS.2.2.1.grown hb2, ⟨_, hS.2.2.2.1.choose_spec.1, hS.2.2.2.1.choose_spec.2.grown hb2⟩, below_step hS.2.2.2.2 hb2⟩
      clear hK K
      replace hS := hS1
      clear hS1
      simp only [Act.put, List.getElem_toArray, List.getElem_cons_succ, List.getElem_cons_zero, List.setIfInBounds_toArray, List.set_cons_zero, List.set_cons_succ]
      refine wpAnyH_take (i := 7) (v := .int .i64 (bits .andNot .i64 (famT u k) (famT t k))) rfl (by kernel_rfl) (by kernel_rfl) (by kernel_rfl) (fun _ _ _ h => h) (Or.inl ⟨by rfl, ?_⟩) hS ?_
      · intro w hSw
        go_simp
      simp only [Act.put, List.getElem_toArray, List.getElem_cons_succ, List.getElem_cons_zero, List.setIfInBounds_toArray, List.set_cons_zero, List.set_cons_succ]
      refine wpAnyH_take (i := 8) (v := .pointer (some ⟨w.heap.size + 1 + 1 + 1, k, none⟩)) rfl (by kernel_rfl) (by kernel_rfl) (by kernel_rfl) (fun _ _ _ h => h) (Or.inl ⟨by rfl, ?_⟩) hS ?_
      · intro w hSw
        go_simp
      simp only [Act.put, List.getElem_toArray, List.getElem_cons_succ, List.getElem_cons_zero, List.setIfInBounds_toArray, List.set_cons_zero, List.set_cons_succ]
      have hS0 := hS
      refine wpAnyH_ready (rs := [9]) (by kernel_rfl) (by simp) ?_
      refine AllReadyH.cons rfl (fun K hK => ?_) AllReadyH.nil
      rw [if_pos (by rfl)]
      refine op_store_Int _ _ _ rfl (w.heap.size + 1 + 1 + 1) (k) rfl rfl hS.2.2.2.1.choose_spec.2 hlt (by kernel_rfl) ?_
      refine hK.out _ _ ?_ (fun hS1 => ?_)
      · exact ⟨hS.1.setAt _ _ _ (by omega), hS.2.1.setAt _ _ _ (by omega), hS.2.2.1.setAt _ _ _ (by omega), ⟨_, fun j hj => (upd_other _ _ _ _ (by omega)).trans (hS.2.2.2.1.choose_spec.1 j hj), hS.2.2.2.1.choose_spec.2.set k _⟩, below_setAt hS.2.2.2.2 _ _ (by omega) _⟩
      clear hK K
      replace hS := hS1
      clear hS1
      simp only [Act.put, List.getElem_toArray, List.getElem_cons_succ, List.getElem_cons_zero, List.setIfInBounds_toArray, List.set_cons_zero, List.set_cons_succ]
      refine wpAnyH_done (by kernel_rfl) ?_ _
      go_wp2_with fail
      go_roundw
      case rel => exact ⟨k + 1, _, by omega, by go_num, fun j hj => by
        rcases Nat.lt_or_ge j k with hj2 | hj2
        · rw [upd_other _ _ _ _ (by omega), hS0.2.2.2.1.choose_spec.1 j hj2]; exact H.out j hj2
        · obtain rfl : j = k := by omega
          rw [upd_same], hS.1, hS.2.1, hS.2.2.1, hS0.2.2.2.1.choose_spec.2.set k (missT t u k), hS.2.2.2.2⟩
      case measure => simp [intOf]; omega
    · obtain rfl : k = 4 := by omega
      go_wp2_with (refine wp_load_Row rfl 44 _ rfl (w.heap.size + 1 + 1 + 1) rfl HF fam_u rfl fam_i ?_)
      have e0 : cs 4 h = cs 4 (missT t u) := cs_ext fun j hj => H.out j hj
      rw [e0]
      refine (impl_transOf _ (missT_fit t u) _).mono ?_
      rintro e w1 ⟨rfl, hb1⟩
      go_wp2_with (refine wp_store_Row rfl 52 _ _ rfl (w.heap.size + 1 + 1) rfl (f := besideT t u) rfl (HZ.grown hb1) trans_i ?_)
      refine ret_Row rfl (w.heap.size + 1 + 1) rfl ((HZ.grown hb1).setRow _) trans_u rfl trans_i rfl ⟨rfl, below_setRow (below_step hb hb1) (by omega) _⟩

theorem impl_BesideDemon1 (t u : Nat → Int) (w : World) :
    Calls Try.prog 84 #[.agg (cs 16 t), .agg (cs 16 u)] w fun e w' => e = .returned (.agg (cs 16 (besideD t u))) ∧ Below w.heap.size w w' := by
  go_enter Try.func84, Try.ntmps84
  go_wp2_with fail
  rw [← cs16_zero]
  obtain ⟨W, HT, HU, HZ, hb, hW⟩ : ∃ W, Row W w.heap.size 52 16 t ∧ Row W (w.heap.size + 1) 52 16 u ∧ Row W (w.heap.size + 1 + 1) 52 16 (fun _ => 0) ∧ Below w.heap.size w W ∧ ((w.alloc (.cells (cs 16 t) 52)).alloc (.cells (cs 16 u) 52)).alloc (.cells (cs 16 fun _ => 0) 52) = W :=
    ⟨_, ((Row.new w _ 16 t).old _).old _, (Row.newAt (w.alloc _) _ 16 u _ (by simp)).old _, Row.newAt ((w.alloc _).alloc _) _ 16 _ _ (by simp), below_new (below_new (below_new (Below.refl _ _) _) _) _, rfl⟩
  rw [hW]; clear hW
  refine wp_region_held_drew (S := fun W => Row W w.heap.size 52 16 t ∧ Row W (w.heap.size + 1) 52 16 u ∧ ∃ f, Row W (w.heap.size + 1 + 1) 52 16 f) (by kernel_rfl) ?_ (fun hS => ?_)
  · exact ⟨HT.drew, HU.drew, _, HZ.drew⟩
  refine wpAnyH_take (i := 0) (v := .agg (cs 16 (t))) rfl (by kernel_rfl) (by kernel_rfl) (by kernel_rfl) (fun _ _ _ h => h) (yields_Row (by rfl) _ _ rfl (w.heap.size) rfl (fun _ h => h.1) trans_u rfl trans_i) hS ?_
  simp only [Act.put, List.getElem_toArray, List.getElem_cons_succ, List.getElem_cons_zero, List.setIfInBounds_toArray, List.set_cons_zero, List.set_cons_succ]
  refine wpAnyH_take (i := 2) (v := .agg (cs 16 (u))) rfl (by kernel_rfl) (by kernel_rfl) (by kernel_rfl) (fun _ _ _ h => h) (yields_Row (by rfl) _ _ rfl (w.heap.size + 1) rfl (fun _ h => h.2.1) trans_u rfl trans_i) hS ?_
  simp only [Act.put, List.getElem_toArray, List.getElem_cons_succ, List.getElem_cons_zero, List.setIfInBounds_toArray, List.set_cons_zero, List.set_cons_succ]
  refine wpAnyH_ready (rs := [1]) (by kernel_rfl) (by simp) ?_
  refine AllReadyH.cons rfl (fun K hK => ?_) AllReadyH.nil
  rw [if_pos (by rfl)]
  refine op_call 85 _ _ rfl (enters_of Try.func85 (by kernel_rfl) rfl) _ (impl_dual t _) rfl ?_
  rintro e w1 ⟨rfl, hb1⟩
  refine ⟨_, rfl, ?_⟩
  refine hK.out _ _ ?_ (fun hS1 => ?_)
  · exact ⟨hS.1.grown hb1, hS.2.1.grown hb1, _, hS.2.2.choose_spec.grown hb1⟩
  clear hK K
  replace hS := hS1
  clear hS1
  simp only [Act.put, List.getElem_toArray, List.getElem_cons_succ, List.getElem_cons_zero, List.setIfInBounds_toArray, List.set_cons_zero, List.set_cons_succ]
  refine wpAnyH_ready (rs := [3]) (by kernel_rfl) (by simp) ?_
  refine AllReadyH.cons rfl (fun K hK => ?_) AllReadyH.nil
  rw [if_pos (by rfl)]
  refine op_call 85 _ _ rfl (enters_of Try.func85 (by kernel_rfl) rfl) _ (impl_dual u _) rfl ?_
  rintro e w2 ⟨rfl, hb2⟩
  refine ⟨_, rfl, ?_⟩
  refine hK.out _ _ ?_ (fun hS1 => ?_)
  · exact ⟨hS.1.grown hb2, hS.2.1.grown hb2, _, hS.2.2.choose_spec.grown hb2⟩
  clear hK K
  replace hS := hS1
  clear hS1
  simp only [Act.put, List.getElem_toArray, List.getElem_cons_succ, List.getElem_cons_zero, List.setIfInBounds_toArray, List.set_cons_zero, List.set_cons_succ]
  refine wpAnyH_ready (rs := [4]) (by kernel_rfl) (by simp) ?_
  refine AllReadyH.cons rfl (fun K hK => ?_) AllReadyH.nil
  rw [if_pos (by rfl)]
  refine op_call 81 _ _ rfl (enters_of Try.func81 (by kernel_rfl) rfl) _ (impl_besideAngel _ _ _) rfl ?_
  rintro e w3 ⟨rfl, hb3⟩
  refine ⟨_, rfl, ?_⟩
  refine hK.out _ _ ?_ (fun hS1 => ?_)
  · exact ⟨hS.1.grown hb3, hS.2.1.grown hb3, _, hS.2.2.choose_spec.grown hb3⟩
  clear hK K
  replace hS := hS1
  clear hS1
  simp only [Act.put, List.getElem_toArray, List.getElem_cons_succ, List.getElem_cons_zero, List.setIfInBounds_toArray, List.set_cons_zero, List.set_cons_succ]
  refine wpAnyH_ready (rs := [5]) (by kernel_rfl) (by simp) ?_
  refine AllReadyH.cons rfl (fun K hK => ?_) AllReadyH.nil
  rw [if_pos (by rfl)]
  refine op_call 85 _ _ rfl (enters_of Try.func85 (by kernel_rfl) rfl) _ (impl_dual _ _) rfl ?_
  rintro e w4 ⟨rfl, hb4⟩
  refine ⟨_, rfl, ?_⟩
  refine hK.out _ _ ?_ (fun hS1 => ?_)
  · exact ⟨hS.1.grown hb4, hS.2.1.grown hb4, _, hS.2.2.choose_spec.grown hb4⟩
  clear hK K
  replace hS := hS1
  clear hS1
  simp only [Act.put, List.getElem_toArray, List.getElem_cons_succ, List.getElem_cons_zero, List.setIfInBounds_toArray, List.set_cons_zero, List.set_cons_succ]
  have hS0 := hS
  refine wpAnyH_ready (rs := [6]) (by kernel_rfl) (by simp) ?_
  refine AllReadyH.cons rfl (fun K hK => ?_) AllReadyH.nil
  rw [if_pos (by rfl)]
  refine op_store_Row _ _ _ rfl (w.heap.size + 1 + 1) rfl (n := 16) (f := besideD t u) rfl hS.2.2.choose_spec trans_i ?_
  refine hK.out _ _ ?_ (fun hS1 => ?_)
  · exact ⟨hS.1.setRowOther _ _ (by omega), hS.2.1.setRowOther _ _ (by omega), _, hS.2.2.choose_spec.setRow _⟩
  clear hK K
  replace hS := hS1
  clear hS1
  simp only [Act.put, List.getElem_toArray, List.getElem_cons_succ, List.getElem_cons_zero, List.setIfInBounds_toArray, List.set_cons_zero, List.set_cons_succ]
  refine wpAnyH_done (by kernel_rfl) ?_ _
  go_wp2_with fail
  refine ret_Row rfl (w.heap.size + 1 + 1) rfl (hS0.2.2.choose_spec.setRow _) trans_u rfl trans_i rfl ⟨rfl, below_setRow ?_ (by omega) _⟩
  exact below_step (below_step (below_step (below_step hb.drew hb1) hb2) hb3) hb4

theorem impl_BesideAngel (t u : ByteArray) (ht : t.size ≤ 4611686018427387904) (hu : u.size ≤ 4611686018427387904) (w : World) :
    Calls Try.prog 33 #[.string t, .string u] w fun e w' => e = .returned (.tuple #[.string (orNone (okTr t && okTr u) (txt 16 (besideT (val t) (val u)))), .bool (okTr t && okTr u)]) ∧ Below w.heap.size w w' := by
  go_enter Try.func33, Try.ntmps33
  go_wp2_with fail
  refine (impl_both t u ht hu _ #[] #[] besideT (fun x y _ _ => besideT_ok x y) _ (enters_of Try.func81 (by kernel_rfl) rfl) ?_).mono ?_
  · intro W x y hx hy _ _ hb
    exact impl_besideAngel x y W
  rintro e w1 ⟨rfl, hb1⟩
  go_wp2_with fail
  go_ret2
  exact ⟨rfl, hb1⟩

theorem impl_BesideDemon (t u : ByteArray) (ht : t.size ≤ 4611686018427387904) (hu : u.size ≤ 4611686018427387904) (w : World) :
    Calls Try.prog 35 #[.string t, .string u] w fun e w' => e = .returned (.tuple #[.string (orNone (okTr t && okTr u) (txt 16 (besideD (val t) (val u)))), .bool (okTr t && okTr u)]) ∧ Below w.heap.size w w' := by
  go_enter Try.func35, Try.ntmps35
  go_wp2_with fail
  refine (impl_both t u ht hu _ #[] #[] besideD (fun x y _ _ => besideD_ok x y) _ (enters_of Try.func84 (by kernel_rfl) rfl) ?_).mono ?_
  · intro W x y hx hy _ _ hb
    exact impl_BesideDemon1 x y W
  rintro e w1 ⟨rfl, hb1⟩
  go_wp2_with fail
  go_ret2
  exact ⟨rfl, hb1⟩
end Go.Proofs.Ytildffhpepgjmaa
