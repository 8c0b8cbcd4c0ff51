/- Contracts: the program's contracts of concrete states. -/
import Derived.Test.YtaeibhpkcikaaaaImC
namespace Go.Proofs.Ytaeibhpkcikaaaa
set_option linter.unusedVariables false
set_option linter.unusedSimpArgs false
open Go.RowKit Go.Shelf
set_option maxRecDepth 100000
set_option maxHeartbeats 1000000

/-- a variable of truth -/
structure BoolAt (w : World) (b : Nat) (v : Bool) : Prop where
  eq : w.heap[b]? = some (.cells #[.bool v] 4 (0, 0))
theorem BoolAt.cell {w : World} {b : Nat} {v : Bool} (h : BoolAt w b v) : w.cell? ⟨b, 0, none⟩ = some (.bool v) := by rw [cell_of_row w b 0 _ _ _ h.eq]; rfl
theorem BoolAt.free {w : World} {b : Nat} {v : Bool} (h : BoolAt w b v) : w.frozen? ⟨b, 0, none⟩ = false := frozen_of_row w b 0 _ _ h.eq
theorem BoolAt.lt {w : World} {b : Nat} {v : Bool} (h : BoolAt w b v) : b < w.heap.size := (Array.getElem?_eq_some_iff.1 h.eq).1
theorem BoolAt.grown {w w' : World} {b : Nat} {v : Bool} (h : BoolAt w b v) (hb : Below w.heap.size w w') : BoolAt w' b v := ⟨(hb.block b h.lt).trans h.eq⟩
theorem BoolAt.drew {w : World} {b : Nat} {v : Bool} (h : BoolAt w b v) : BoolAt w.drew b v := ⟨h.eq⟩
theorem BoolAt.set {w : World} {b : Nat} {v : Bool} (h : BoolAt w b v) (u : Bool) : BoolAt (w.setCell ⟨b, 0, none⟩ (.bool u)) b u := ⟨by rw [heap_setCell_same w b 0 _ _ _ h.eq]; rfl⟩
/-- what making a contract concrete works on: the view, the known states, and whether all fitted so far -/
structure Env (w : World) (bx bi bf : Nat) (r : Nat → Int) (im : Int) (ok : Bool) : Prop where
  row : Row w bx 76 4 r
  known : w.cell? ⟨bi, 0, none⟩ = some (.int .i64 im)
  fit : BoolAt w bf ok
  lx : bx < bf
  li : bi < bf
theorem Env.step {w w' : World} {bx bi bf : Nat} {r : Nat → Int} {im : Int} {ok ok' : Bool} (h : Env w bx bi bf r im ok) (hb : Below bf w w') (hf : BoolAt w' bf ok') : Env w' bx bi bf r im ok' :=
  ⟨h.row.below hb h.lx, cell_kept h.known (hb.block bi h.li), hf, h.lx, h.li⟩
theorem Env.below {w w' : World} {bx bi bf : Nat} {r : Nat → Int} {im : Int} {ok : Bool} (h : Env w bx bi bf r im ok) (hb : Below w.heap.size w w') : Below bf w w' := hb.mono (Nat.le_of_lt h.fit.lt)
theorem Env.grown {w w' : World} {bx bi bf : Nat} {r : Nat → Int} {im : Int} {ok : Bool} (h : Env w bx bi bf r im ok) (hb : Below w.heap.size w w') : Env w' bx bi bf r im ok := h.step (h.below hb) (h.fit.grown hb)
theorem Env.drew {w : World} {bx bi bf : Nat} {r : Nat → Int} {im : Int} {ok : Bool} (h : Env w bx bi bf r im ok) : Env w.drew bx bi bf r im ok := ⟨h.row.drew, h.known, h.fit.drew, h.lx, h.li⟩
theorem Node.drew {w : World} {b : Nat} {o : UInt8} {p : Int} {r : Nat → Int} {pv : Value} {tx : ByteArray} (h : Node w b o p r pv tx) : Node w.drew b o p r pv tx := ⟨h.eq⟩
theorem yields_NodeR {P : Program} {ops : Array Oper} {S : World → Prop} {op : Oper} {a : Act} (hw : Region.wanted op (yielded ops a.tmps) = true) (ty : TypeId) (x : Operand) (ho : op.op = .load ty x)
    (b : Nat) (hx : a.eval x = .pointer (some ⟨b, 2, none⟩)) {c : UInt8} {p : Int} {r : Nat → Int} {pv : Value} {tx : ByteArray} {d : TypeDesc} (hS : ∀ w, S w → Node w b c p r pv tx) (hu : P.underlying ty = some d) (hd : d.isRow = true) (hi : (P.info? ty).map (·.size) = some 4) : YieldsIf P ops S op (.agg (cs 4 r)) a :=
  yieldsIf_load_mid hw ty x ho b 2 hx _ d (fun w h => (hS w h).range) hu hd hi

theorem has_zero_all : ∀ n : _root_.Fin 16, ∀ k : _root_.Fin 4, (bits .and .i64 ((n.val : Int) / 2 ^ k.val) 1 == 0) = !has (n.val : Int) k.val := by decide +kernel
theorem has_not {p : Int} (hp : C p) {k : Nat} (hk : k < 4) : (bits .and .i64 (p / 2 ^ k) 1 == 0) = !has p k := by
  have := has_zero_all ⟨p.toNat, lt16 hp⟩ ⟨k, hk⟩
  simp only [toNat_cast hp] at this
  exact this
/-- what the handed function does with a statement -/
def Conc1 (t : Ct) : Prop := ∀ (b bx bi bf : Nat) (r : Nat → Int) (_ : Cond r) (pv : Value) (ok : Bool) (w : World), Env w bx bi bf r (img r 15) ok → b < bf → Node w b t.op (lastD t.ds) (relD t.ds) pv t.text →
    Calls Try.prog 70 #[.pointer (some ⟨b, 0, none⟩), .pointer (some ⟨bx, 0, none⟩), .pointer (some ⟨bf, 0, none⟩), .pointer (some ⟨bi, 0, none⟩)] w fun e w' =>
      e = .returned (.string ⟨((t.conc r).headB).toArray⟩) ∧ BoolAt w' bf (ok && fitsD r t.op t.ds) ∧ Below bf w w'
theorem conc1_other (t : Ct) (ht : t.WF) (h33 : t.op ≠ 33) (h65 : t.op ≠ 65) : Conc1 t := by
  intro b bx bi bf r hr pv ok w hE hbf hN
  have hop := hN.op
  have HN := Lib.hid hN
  have e1 := u8_ne (n := 33) h33 rfl
  have e2 := u8_ne (n := 65) h65 rfl
  have HF : Hid ((ok && fitsD r t.op t.ds) = ok) := by
    show _ = _
    simp [fitsD, h65]
  have HB : Hid ((t.conc r).headB = t.headB) := by
    show _ = _
    unfold Ct.headB
    rw [Ct.conc_op, Ct.conc_ds]; simp [concD, h33, h65]
  clear h33 h65
  go_enter Try.func70, Try.ntmps70
  go_wp2_with fail
  refine (impl_head t ht b pv _ HN.out).mono ?_
  rintro e w' ⟨rfl, rfl⟩
  go_wp2_with fail
  go_ret
  rw [HF.out, HB.out]
  exact ⟨rfl, hE.fit, Below.refl _ _⟩
theorem conc1_33 (d : List Int) (hn : d.length = 1) : Conc1 (.n0 33 d) := by
  intro b bx bi bf r hr pv ok w hE hbf hN
  have hop : w.cell? ⟨b, 0, none⟩ = some (.int .u8 33) := hN.op
  have hN' : Node w b 33 (dsF d 0) (relD d) pv (Ct.n0 33 d).text := by have := hN; rw [show lastD (Ct.n0 33 d).ds = dsF d 0 from lastD1 hn] at this; exact this
  have hdc := dia_ok r (dsF d 0)
  have HF : Hid ((ok && fitsD r (Ct.n0 33 d).op (Ct.n0 33 d).ds) = ok) := by
    show _ = _
    simp [fitsD, Ct.op]
  go_enter Try.func70, Try.ntmps70
  go_wp2_with fail
  refine wp_region_held_drew (S := fun W => Env W bx bi bf r (img r 15) ok ∧ Node W b 33 (dsF d 0) (relD d) pv (Ct.n0 33 d).text) (by kernel_rfl) ?_ (fun hS => ?_)
  · exact ⟨hE.drew, hN'.drew⟩
  refine wpAnyH_take (i := 0) (v := .agg (cs 4 (r))) rfl (by kernel_rfl) (by kernel_rfl) (by kernel_rfl) (fun _ _ _ h => h) (yields_Row (by rfl) _ _ rfl (bx) rfl (fun _ h => h.1.row) rel_u rfl rel_i) hS ?_
  simp only [Act.put, List.getElem_toArray, List.getElem_cons_succ, List.getElem_cons_zero, List.setIfInBounds_toArray, List.set_cons_zero, List.set_cons_succ]
  refine wpAnyH_take (i := 1) (v := .pointer (some ⟨b, 0, none⟩)) rfl (by kernel_rfl) (by kernel_rfl) (by kernel_rfl) (fun _ _ _ h => h) (Or.inl ⟨by rfl, ?_⟩) hS ?_
  · intro w hSw
    go_simp
  simp only [Act.put, List.getElem_toArray, List.getElem_cons_succ, List.getElem_cons_zero, List.setIfInBounds_toArray, List.set_cons_zero, List.set_cons_succ]
  refine wpAnyH_take (i := 2) (v := .pointer (some ⟨b, 0, none⟩)) rfl (by kernel_rfl) (by kernel_rfl) (by kernel_rfl) (fun _ _ _ h => h) (Or.inl ⟨by rfl, ?_⟩) hS ?_
  · intro w hSw
    go_simp
  simp only [Act.put, List.getElem_toArray, List.getElem_cons_succ, List.getElem_cons_zero, List.setIfInBounds_toArray, List.set_cons_zero, List.set_cons_succ]
  refine wpAnyH_take (i := 3) (v := .pointer (some ⟨b, 1, none⟩)) rfl (by kernel_rfl) (by kernel_rfl) (by kernel_rfl) (fun _ _ _ h => h) (Or.inl ⟨by rfl, ?_⟩) hS ?_
  · intro w hSw
    go_simp
  simp only [Act.put, List.getElem_toArray, List.getElem_cons_succ, List.getElem_cons_zero, List.setIfInBounds_toArray, List.set_cons_zero, List.set_cons_succ]
  refine wpAnyH_take (i := 4) (v := .int .i64 (dsF d 0)) rfl (by kernel_rfl) (by kernel_rfl) (by kernel_rfl) (fun _ _ _ h => h) (Or.inl ⟨by rfl, ?_⟩) hS ?_
  · rintro w hSw
    have h7 := hSw.2.cp
    clear hSw
    go_simp
  simp only [Act.put, List.getElem_toArray, List.getElem_cons_succ, List.getElem_cons_zero, List.setIfInBounds_toArray, List.set_cons_zero, List.set_cons_succ]
  refine wpAnyH_ready (rs := [5]) (by kernel_rfl) (by simp) ?_
  refine AllReadyH.cons rfl (fun K hK => ?_) AllReadyH.nil
  rw [if_pos (by rfl)]
  refine op_call 68 _ _ rfl (enters_of Try.func68 (by kernel_rfl) rfl) _ (impl_diamond r (dsF d 0) _) rfl ?_
  rintro e w3 ⟨rfl, hb3⟩
  refine ⟨_, rfl, ?_⟩
  refine hK.out _ _ ?_ (fun hS1 => ?_)
  · exact ⟨hS.1.grown hb3, hS.2.grown hb3⟩
  clear hK K
  replace hS := hS1
  clear hS1
  simp only [Act.put, List.getElem_toArray, List.getElem_cons_succ, List.getElem_cons_zero, List.setIfInBounds_toArray, List.set_cons_zero, List.set_cons_succ]
  refine wpAnyH_ready (rs := [6]) (by kernel_rfl) (by simp) ?_
  refine AllReadyH.cons rfl (fun K hK => ?_) AllReadyH.nil
  rw [if_pos (by rfl)]
  refine op_call 71 _ _ rfl (enters_of Try.func71 (by kernel_rfl) rfl) _ (impl_digit _ _ hdc.1 hdc.2) rfl ?_
  rintro e w4 ⟨rfl, rfl⟩
  refine ⟨_, rfl, ?_⟩
  refine hK.out _ _ ?_ (fun hS1 => ?_)
  · exact hS
  clear hK K
  replace hS := hS1
  clear hS1
  simp only [Act.put, List.getElem_toArray, List.getElem_cons_succ, List.getElem_cons_zero, List.setIfInBounds_toArray, List.set_cons_zero, List.set_cons_succ]
  refine wpAnyH_take (i := 7) (v := .string (⟨#[33]⟩ ++ dgs (dia r (dsF d 0)))) rfl (by kernel_rfl) (by kernel_rfl) (by kernel_rfl) (fun _ _ _ h => h) (Or.inl ⟨by rfl, ?_⟩) hS ?_
  · intro w hSw
    go_simp
  simp only [Act.put, List.getElem_toArray, List.getElem_cons_succ, List.getElem_cons_zero, List.setIfInBounds_toArray, List.set_cons_zero, List.set_cons_succ]
  refine wpAnyH_take (i := 8) (v := .string (⟨#[33]⟩ ++ dgs (dia r (dsF d 0)))) rfl (by kernel_rfl) (by kernel_rfl) (by kernel_rfl) (fun _ _ _ h => h) (Or.inl ⟨by rfl, ?_⟩) hS ?_
  · intro w hSw
    go_simp
  simp only [Act.put, List.getElem_toArray, List.getElem_cons_succ, List.getElem_cons_zero, List.setIfInBounds_toArray, List.set_cons_zero, List.set_cons_succ]
  refine wpAnyH_done (by kernel_rfl) ?_ _
  go_wp2_with fail
  go_ret
  rw [HF.out]
  exact ⟨rfl, hS.1.fit, (hE.below ((Below.refl _ _).drew)).trans (hE.drew.below hb3)⟩
theorem img_cg {r q : Nat → Int} (h : ∀ k, k < 4 → r k = q k) (p : Int) : img r p = img q p := orf_congr (fun _ _ => rfl) h
theorem conc1_65 (d : List Int) (hd : ∀ k ∈ d, C k) (hn : d.length = 4) : Conc1 (.n0 65 d) := by
  intro b bx bi bf r hr pv ok w hE hbf hN
  have hop : w.cell? ⟨b, 0, none⟩ = some (.int .u8 65) := hN.op
  have hC := img_ok hr 15
  have HQ : Hid (Cond (relD d)) := by
    intro k
    unfold relD
    rw [if_pos hn]
    exact dsF_c hd k
  have HS : Hid (stayTo (img r 15) (relD d) 4 = staysR (img r 15) (dsF d)) := by
    show _ = _
    rw [stays_to hC HQ.out]
    unfold staysR
    rw [img_cg (relD4 hn)]
  have HN : Hid (Node w b 65 (lastD d) (relD d) pv (Ct.n0 65 d).text) := Lib.hid hN
  have hE1 := hE.known
  have hE2 := hE.fit.cell
  have hne : bi ≠ bf := by have := hE.li; omega
  go_enter Try.func70, Try.ntmps70
  go_wp2_with (refine wp_load_NodeR rfl 76 _ rfl b rfl HN.out rel_u rfl rel_i ?_)
  go_loopw [6, 7, 28] (fun _ _ i wr => ∃ k : Nat, k ≤ 4 ∧ i = .int .i64 k ∧ BoolAt wr bf (ok && stayTo (img r 15) (relD d) k) ∧ Below bf w wr) (fun _ _ i _ => 4 - (intOf i).toNat)
  case atStart => exact ⟨0, by omega, rfl, by simpa [stayTo] using hE.fit, Below.refl _ _⟩
  case round =>
    obtain ⟨k, hk, rfl, hfb, hbw⟩ := hrel
    clear hE1 hE2 hop
    by_cases hlt : k < 4
    · have hx := fun W => run_index_cs (P := Try.prog) W 76 3 4 (relD d) k .i64 hlt rel_u Try.underlying3 (by kernel_rfl)
      have HB := Lib.hid hbw
      have HG := Lib.hid hfb
      have c1 : wr.cell? ⟨bi, 0, none⟩ = some (.int .i64 (img r 15)) := cell_kept hE.known (hbw.block bi hE.li)
      have c2 := hfb.cell
      have c3 := hfb.free
      have HX := Lib.hid (stayTo_succ (img r 15) (relD d) k)
      have hz1 := has_not hC hlt
      clear hbw hfb
      cases ha : (ok && stayTo (img r 15) (relD d) k) <;> cases hb : has (img r 15) k <;> cases hc : (bits .andNot .i64 (relD d k) (img r 15) == 0)
      all_goals
        rw [ha] at c2
        rw [hb] at hz1
        simp only [Bool.not_true, Bool.not_false] at hz1
        have HY := Lib.hid ha
        have HZ := Lib.hid hb
        clear ha hb
        go_wp2_with fail
        go_roundw
        case rel => exact ⟨k + 1, by omega, by go_num, by rw [HX.out, ← Bool.and_assoc, HY.out, HZ.out, hc]; exact HG.out.set _, HB.out.setCell (p := ⟨bf, 0, none⟩) (Nat.le_refl _) _⟩
        case measure => simp [intOf]; omega
    · obtain rfl : k = 4 := by omega
      have hE' : Env wr bx bi bf r (img r 15) (ok && stayTo (img r 15) (relD d) 4) := hE.step hbw hfb
      have hN' : Node wr b 65 (lastD d) (relD d) pv (Ct.n0 65 d).text := HN.out.kept (hbw.block b hbf)
      have HT : Hid ((⟨#[65]⟩ : ByteArray) ++ txt 4 (comp (comp r (relD d)) (turn r)) = ⟨(((Ct.n0 65 d).conc r).headB).toArray⟩) := by
        show _ = _
        have e1 : txt 4 (comp (comp r (relD d)) (turn r)) = txt 4 (concR r d) := txt_ext fun k hk => by
          show img (turn r) (img (relD d) (r k)) = img (turn r) (img (dsF d) (r k))
          rw [img_cg (relD4 hn)]
        rw [e1]; rfl
      have hc2 : Cond (comp (comp r (relD d)) (turn r)) := fun _ => img_ok (turn_ok r) _
      have hf := hE'.fit
      rw [HS.out] at hf
      go_wp2_with fail
      refine wp_region_held_drew (S := fun W => Env W bx bi bf r (img r 15) (ok && stayTo (img r 15) (relD d) 4) ∧ Node W b 65 (lastD d) (relD d) pv (Ct.n0 65 d).text) (by kernel_rfl) ?_ (fun hS => ?_)
      · exact ⟨hE'.drew, hN'.drew⟩
      refine wpAnyH_take (i := 0) (v := .agg (cs 4 (r))) rfl (by kernel_rfl) (by kernel_rfl) (by kernel_rfl) (fun _ _ _ h => h) (yields_Row (by rfl) _ _ rfl (bx) rfl (fun _ h => h.1.row) rel_u rfl rel_i) hS ?_
      simp only [Act.put, List.getElem_toArray, List.getElem_cons_succ, List.getElem_cons_zero, List.setIfInBounds_toArray, List.set_cons_zero, List.set_cons_succ]
      refine wpAnyH_take (i := 1) (v := .pointer (some ⟨b, 0, none⟩)) rfl (by kernel_rfl) (by kernel_rfl) (by kernel_rfl) (fun _ _ _ h => h) (Or.inl ⟨by rfl, ?_⟩) hS ?_
      · intro w hSw
        go_simp
      simp only [Act.put, List.getElem_toArray, List.getElem_cons_succ, List.getElem_cons_zero, List.setIfInBounds_toArray, List.set_cons_zero, List.set_cons_succ]
      refine wpAnyH_take (i := 2) (v := .pointer (some ⟨b, 0, none⟩)) rfl (by kernel_rfl) (by kernel_rfl) (by kernel_rfl) (fun _ _ _ h => h) (Or.inl ⟨by rfl, ?_⟩) hS ?_
      · intro w hSw
        go_simp
      simp only [Act.put, List.getElem_toArray, List.getElem_cons_succ, List.getElem_cons_zero, List.setIfInBounds_toArray, List.set_cons_zero, List.set_cons_succ]
      refine wpAnyH_take (i := 3) (v := .pointer (some ⟨b, 2, none⟩)) rfl (by kernel_rfl) (by kernel_rfl) (by kernel_rfl) (fun _ _ _ h => h) (Or.inl ⟨by rfl, ?_⟩) hS ?_
      · intro w hSw
        go_simp
      simp only [Act.put, List.getElem_toArray, List.getElem_cons_succ, List.getElem_cons_zero, List.setIfInBounds_toArray, List.set_cons_zero, List.set_cons_succ]
      refine wpAnyH_take (i := 4) (v := .agg (cs 4 (relD d))) rfl (by kernel_rfl) (by kernel_rfl) (by kernel_rfl) (fun _ _ _ h => h) (yields_NodeR (by rfl) _ _ rfl b rfl (fun _ h => h.2) rel_u rfl rel_i) hS ?_
      simp only [Act.put, List.getElem_toArray, List.getElem_cons_succ, List.getElem_cons_zero, List.setIfInBounds_toArray, List.set_cons_zero, List.set_cons_succ]
      refine wpAnyH_take (i := 6) (v := .agg (cs 4 (r))) rfl (by kernel_rfl) (by kernel_rfl) (by kernel_rfl) (fun _ _ _ h => h) (yields_Row (by rfl) _ _ rfl (bx) rfl (fun _ h => h.1.row) rel_u rfl rel_i) hS ?_
      simp only [Act.put, List.getElem_toArray, List.getElem_cons_succ, List.getElem_cons_zero, List.setIfInBounds_toArray, List.set_cons_zero, List.set_cons_succ]
      refine wpAnyH_ready (rs := [5]) (by kernel_rfl) (by simp) ?_
      refine AllReadyH.cons rfl (fun K hK => ?_) AllReadyH.nil
      rw [if_pos (by rfl)]
      refine op_call 72 _ _ rfl (enters_of Try.func72 (by kernel_rfl) rfl) _ (impl_rel_then r (relD d) _) rfl ?_
      rintro e w3 ⟨rfl, hb3⟩
      refine ⟨_, rfl, ?_⟩
      refine hK.out _ _ ?_ (fun hS1 => ?_)
      · exact ⟨hS.1.grown hb3, hS.2.grown hb3⟩
      clear hK K
      replace hS := hS1
      clear hS1
      simp only [Act.put, List.getElem_toArray, List.getElem_cons_succ, List.getElem_cons_zero, List.setIfInBounds_toArray, List.set_cons_zero, List.set_cons_succ]
      refine wpAnyH_ready (rs := [7]) (by kernel_rfl) (by simp) ?_
      refine AllReadyH.cons rfl (fun K hK => ?_) AllReadyH.nil
      rw [if_pos (by rfl)]
      refine op_call 67 _ _ rfl (enters_of Try.func67 (by kernel_rfl) rfl) _ (impl_turned r _) rfl ?_
      rintro e w4 ⟨rfl, hb4⟩
      refine ⟨_, rfl, ?_⟩
      refine hK.out _ _ ?_ (fun hS1 => ?_)
      · exact ⟨hS.1.grown hb4, hS.2.grown hb4⟩
      clear hK K
      replace hS := hS1
      clear hS1
      simp only [Act.put, List.getElem_toArray, List.getElem_cons_succ, List.getElem_cons_zero, List.setIfInBounds_toArray, List.set_cons_zero, List.set_cons_succ]
      refine wpAnyH_ready (rs := [8]) (by kernel_rfl) (by simp) ?_
      refine AllReadyH.cons rfl (fun K hK => ?_) AllReadyH.nil
      rw [if_pos (by rfl)]
      refine op_call 72 _ _ rfl (enters_of Try.func72 (by kernel_rfl) rfl) _ (impl_rel_then (comp r (relD d)) (turn r) _) rfl ?_
      rintro e w5 ⟨rfl, hb5⟩
      refine ⟨_, rfl, ?_⟩
      refine hK.out _ _ ?_ (fun hS1 => ?_)
      · exact ⟨hS.1.grown hb5, hS.2.grown hb5⟩
      clear hK K
      replace hS := hS1
      clear hS1
      simp only [Act.put, List.getElem_toArray, List.getElem_cons_succ, List.getElem_cons_zero, List.setIfInBounds_toArray, List.set_cons_zero, List.set_cons_succ]
      refine wpAnyH_ready (rs := [9]) (by kernel_rfl) (by simp) ?_
      refine AllReadyH.cons rfl (fun K hK => ?_) AllReadyH.nil
      rw [if_pos (by rfl)]
      refine op_call 54 _ _ rfl (enters_of Try.func54 (by kernel_rfl) rfl) _ (impl_rel_text _ hc2 _) rfl ?_
      rintro e w6 ⟨rfl, hb6⟩
      refine ⟨_, rfl, ?_⟩
      refine hK.out _ _ ?_ (fun hS1 => ?_)
      · exact ⟨hS.1.grown hb6, hS.2.grown hb6⟩
      clear hK K
      replace hS := hS1
      clear hS1
      simp only [Act.put, List.getElem_toArray, List.getElem_cons_succ, List.getElem_cons_zero, List.setIfInBounds_toArray, List.set_cons_zero, List.set_cons_succ]
      refine wpAnyH_take (i := 10) (v := .string (⟨#[65]⟩ ++ txt 4 (comp (comp r (relD d)) (turn r)))) rfl (by kernel_rfl) (by kernel_rfl) (by kernel_rfl) (fun _ _ _ h => h) (Or.inl ⟨by rfl, ?_⟩) hS ?_
      · intro w hSw
        go_simp
      simp only [Act.put, List.getElem_toArray, List.getElem_cons_succ, List.getElem_cons_zero, List.setIfInBounds_toArray, List.set_cons_zero, List.set_cons_succ]
      refine wpAnyH_take (i := 11) (v := .string (⟨#[65]⟩ ++ txt 4 (comp (comp r (relD d)) (turn r)))) rfl (by kernel_rfl) (by kernel_rfl) (by kernel_rfl) (fun _ _ _ h => h) (Or.inl ⟨by rfl, ?_⟩) hS ?_
      · intro w hSw
        go_simp
      simp only [Act.put, List.getElem_toArray, List.getElem_cons_succ, List.getElem_cons_zero, List.setIfInBounds_toArray, List.set_cons_zero, List.set_cons_succ]
      refine wpAnyH_done (by kernel_rfl) ?_ _
      go_wp2_with fail
      go_ret
      refine ⟨ret_str HT.out, ?_, ?_⟩
      · have := hS.1.fit
        rw [HS.out] at this
        exact this
      · exact hbw.trans ((hE'.below ((Below.refl _ _).drew)).trans (hE'.drew.below (below_step (below_step (below_step hb3 hb4) hb5) hb6)))
theorem conc1 : ∀ t : Ct, t.WF → Conc1 t := by
  intro t ht
  by_cases h33 : t.op = 33
  · cases t with
    | n0 o d =>
      obtain rfl : o = 33 := h33
      exact conc1_33 d (by have := ht.1; simp [shp] at this; omega)
    | n1 o d x => obtain rfl : o = 33 := h33; have := ht.1.1; simp [shp] at this
    | n2 o d x y => obtain rfl : o = 33 := h33; have := ht.1.1; simp [shp] at this
  · by_cases h65 : t.op = 65
    · cases t with
      | n0 o d =>
        obtain rfl : o = 65 := h65
        exact conc1_65 d ht.2 (by have := ht.1; simp [shp] at this; omega)
      | n1 o d x => obtain rfl : o = 65 := h65; have := ht.1.1; simp [shp] at this
      | n2 o d x y => obtain rfl : o = 65 := h65; have := ht.1.1; simp [shp] at this
    · exact conc1_other t ht h33 h65
end Go.Proofs.Ytaeibhpkcikaaaa
