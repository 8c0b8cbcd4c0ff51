/- Plays: the program's moves up to a choice (printed by mk6f.py). -/
import Derived.Test.YtaeibhpkcikaaaaGreatDoorImP3
import Derived.StillTailTactics
namespace Go.Proofs.YtaeibhpkcikaaaaGreatDoor
set_option linter.unusedVariables false
set_option linter.unusedSimpArgs false
open Go.RowKit Go.Shelf
set_option maxRecDepth 100000
set_option maxHeartbeats 40000000

theorem Tree.below {w w' : World} {S : Nat → Prop} {B : Nat} (hb : Below B w w') (hS : ∀ q, S q → q < B) (t : Ct) (b : Nat) (h : Tree w S t b) : Tree w' S t b := Tree.kept (fun k hk _ => hb.block k (hS k hk)) t b h
theorem wpStill_load_BlkP {P : Program} {ops : Array Oper} {w : World} {Q : Act → Prop} {a : Act} {o : Oper} {rest : List Oper} (hw : Region.wanted o (yielded ops a.tmps) = true) (ty : TypeId) (x : Operand) (ho : o.op = .load ty x) (g : Nat) (hx : a.eval x = .pointer (some ⟨g, 0, none⟩)) {t : TypeId} {c : Array Value} {d : TypeDesc}
    (hg : Blk w g t c) (hu : P.underlying ty = some d) (hd : (match d with | .struct _ | .array _ _ => true | _ => false) = true) (hi : (P.info? ty).map (·.size) = some c.size)
    (h : wpStill P ops w Q rest (a.put o.dst (.agg c))) : wpStill P ops w Q (o :: rest) a := by
  refine wpStill_step fun K hK => ?_
  rw [if_pos hw]
  unfold Oper.still execOp
  simp only [ho, hx, Instr.loadAt, Instr.sureAddr, Sem.run_bind, Sem.run_pure, Result.andThen_ok, run_loadVar_row w g t ty c (0, 0) d hg.eq hu hd hi]
  rw [Oper.stillUpon_value]; exact hK _ h
theorem op_loadP {P : Program} {o : Oper} {a : Act} {w : World} {Q : Exit → Act → World → Prop} {K : Act → World → Prop} (ty : TypeId) (x : Operand) (ho : o.op = .load ty x) (g : Nat) (hx : a.eval x = .pointer (some ⟨g, 0, none⟩)) {t : TypeId} {c : Array Value} {d : TypeDesc}
    (hg : Blk w g t c) (hu : P.underlying ty = some d) (hd : (match d with | .struct _ | .array _ _ => true | _ => false) = true) (hi : (P.info? ty).map (·.size) = some c.size)
    (h : K (a.put o.dst (.agg c)) w) : o.wp P a w K Q := wp_load_row ty x ho g hx t c (0, 0) d hg.eq hu hd hi h
/-- who chooses, and how it ends, as the program tells it -/
def fwW : List Ct × Fin → ByteArray
  | (t :: _, .pick) => whoN t.who
  | _ => ⟨#[]⟩
def fwE : Fin → ByteArray
  | .pick => ⟨#[]⟩
  | .done => ⟨#[100, 111, 110, 101]⟩
  | .long => ⟨#[108, 111, 110, 103]⟩
  | .broke a => whoN a
def FwdEnd (S : Nat → Prop) (r : Nat × List Ct × Fin) (s : Nat) (w : World) (e : Ending) (w' : World) : Prop := Below w.heap.size w w' ∧
  ∃ g cap, e = .returned (.tuple #[.agg #[.int .i64 s, .slice (some ⟨g, 0, none⟩) r.2.1.length cap, .int .i64 ((200 - r.1 : Nat))], .string (fwW r.2), .string (fwE r.2.2)]) ∧ AtP w' S r.2.1 g cap
structure FwdAt (w wr : World) (S : Nat → Prop) (r : Nat × List Ct × Fin) (s m : Nat) (us : List Ct) (g cap : Nat) : Prop where
  run : run m s us = r
  fit : FitC us
  len : us.length + m ≤ 1000
  hm : m ≤ 200
  hs : s < 4
  hS : ∀ q, S q → q < w.heap.size
  a : Blk wr w.heap.size 50 #[.int .i64 s, .slice (some ⟨g, 0, none⟩) us.length cap, .int .i64 ((200 - m : Nat))]
  z : Blk wr (w.heap.size + 1) 50 #[.int .i64 0, .slice none 0 0, .int .i64 0]
  t : AtP wr S us g cap
  b : Below w.heap.size w wr
theorem FwdAt.grown {w wr wr' : World} {S : Nat → Prop} {r : Nat × List Ct × Fin} {s m : Nat} {us : List Ct} {g cap : Nat} (h : FwdAt w wr S r s m us g cap) (hb : Below wr.heap.size wr wr') : FwdAt w wr' S r s m us g cap :=
  ⟨h.run, h.fit, h.len, h.hm, h.hs, h.hS, h.a.grown hb, h.z.grown hb, h.t.grown hb, below_step h.b hb⟩
theorem FwdAt.drew {w wr : World} {S : Nat → Prop} {r : Nat × List Ct × Fin} {s m : Nat} {us : List Ct} {g cap : Nat} (h : FwdAt w wr S r s m us g cap) : FwdAt w wr.drew S r s m us g cap :=
  ⟨h.run, h.fit, h.len, h.hm, h.hs, h.hS, h.a.drew, h.z.drew, h.t.drew, h.b.drew⟩
/-- the end: the place is handed back -/
theorem FwdAt.done {w wr : World} {S : Nat → Prop} {r : Nat × List Ct × Fin} {s m : Nat} {us : List Ct} {g cap : Nat} (h : FwdAt w wr S r s m us g cap) (f : Fin) (hr : r = (m, us, f)) (W E : ByteArray) (hW : fwW (us, f) = W) (hE : fwE f = E) :
    FwdEnd S r s w (.returned (.tuple #[.agg #[.int .i64 s, .slice (some ⟨g, 0, none⟩) us.length cap, .int .i64 ((200 - m : Nat))], .string W, .string E])) (wr.setRow (w.heap.size + 1) #[.int .i64 s, .slice (some ⟨g, 0, none⟩) us.length cap, .int .i64 ((200 - m : Nat))]) := by
  subst hr; subst hW; subst hE
  exact ⟨below_setRow h.b (by omega) _, g, cap, rfl, h.t.setRow h.z (fun hq => by have := h.hS _ hq; omega) _⟩
/-- a move: the statement is replaced by others -/
theorem FwdAt.next {w wr : World} {S : Nat → Prop} {r : Nat × List Ct × Fin} {s m : Nat} {t : Ct} {us l : List Ct} {g cap : Nat} (h : FwdAt w wr S r s m (t :: us) g cap) (hm : 1 ≤ m) (hx : t.next s = .go l) {w2 : World} (hb : Below wr.heap.size wr w2) {g2 cap2 kk : Nat} (hP : AtP w2 S (l ++ us) g2 cap2) (hk : (l ++ us).length = kk) :
    FwdAt w (w2.setRow w.heap.size #[.int .i64 s, .slice (some ⟨g2, 0, none⟩) kk cap2, .int .i64 ((200 - (m - 1) : Nat))]) S r s (m - 1) (l ++ us) g2 cap2 := by
  have hR := run_go (n := m - 1) (ts := us) hx
  rw [Nat.sub_add_cancel hm, h.run] at hR
  have HF := h.fit.next hx
  have h1 := h.len
  have h2 := h.hm
  have h3 := HF.2
  have HA := h.a.grown hb
  subst hk
  exact ⟨hR.symm, HF.1, by rw [List.length_append]; simp only [List.length_cons] at h1; omega, by omega, h.hs, h.hS, HA.setRow _, (h.z.grown hb).setRowOther _ _ (by omega), hP.setRow HA (fun hq => by have := h.hS _ hq; omega) _, below_setRow (below_step h.b hb) (Nat.le_refl _) _⟩
theorem FwdAt.put {w wr : World} {S : Nat → Prop} {r : Nat × List Ct × Fin} {s m : Nat} {t : Ct} {us l : List Ct} {g cap : Nat} (h : FwdAt w wr S r s m (t :: us) g cap) (hm : 1 ≤ m) (hx : t.next s = .go l) (w1 : World) (hb : Below wr.heap.size wr w1) (p : Option Addr) (cap' : Nat)
    (hL : ∀ j x, l[j]? = some x → ∃ g' b, p = some ⟨g', 0, none⟩ ∧ w1.cell? ⟨g', j, none⟩ = some (ptr b) ∧ Tree w1 S x b) :
    Calls Tryz.prog 63 #[.agg #[.int .i64 s, .slice (some ⟨g, 0, none⟩) (us.length + 1) cap, .int .i64 ((200 - m : Nat))], .int .i64 s, .slice p l.length cap'] w1 fun e w2 => ∃ g2 cap2 kk, e = .returned (.agg #[.int .i64 s, .slice (some ⟨g2, 0, none⟩) kk cap2, .int .i64 ((200 - (m - 1) : Nat))]) ∧
      Blk w2 w.heap.size 50 #[.int .i64 s, .slice (some ⟨g, 0, none⟩) (us.length + 1) cap, .int .i64 ((200 - m : Nat))] ∧
      FwdAt w (w2.setRow w.heap.size #[.int .i64 s, .slice (some ⟨g2, 0, none⟩) kk cap2, .int .i64 ((200 - (m - 1) : Nat))]) S r s (m - 1) (l ++ us) g2 cap2 ∧ Below w1.heap.size w1 w2 := by
  have h1 := h.len
  simp only [List.length_cons] at h1
  have h2 := h.hm
  have HF := h.fit.next hx
  refine (impl_putP S s s (200 - m) (by omega) t us l g cap p cap' w1 (h.t.grown hb) (by omega) hL HF.2).mono ?_
  rintro e w2 ⟨g2, cap2, rfl, hP2, hb2⟩
  have e : 200 - m + 1 = 200 - (m - 1) := by omega
  rw [e]
  exact ⟨g2, cap2, _, rfl, h.a.grown (below_step hb hb2), h.next hm hx (below_step hb hb2) hP2 rfl, hb2⟩
/-- the moves that are left, as the memory tells -/
def tl (wr : World) (b : Nat) : Nat := match wr.cell? ⟨b, 2, none⟩ with
  | some (.int _ v) => (200 - v).toNat
  | _ => 0
theorem tl_of {wr : World} {b : Nat} {T : TypeId} {x y : Value} {m : Nat} (h : Blk wr b T #[x, y, .int .i64 ((200 - m : Nat))]) (hm : m ≤ 200) : tl wr b = m := by
  unfold tl
  rw [h.cell3.2.2]
  simp only
  omega
theorem next_op {t : Ct} (ht : t.WF) {s : Nat} (h : t.next s = .pick) : t.op ≠ 115 ∧ t.op ≠ 97 ∧ t.op ≠ 109 ∧ t.op ≠ 33 ∧ t.op ≠ 63 ∧ t.op ≠ 59 ∧ t.op ≠ 105 ∧ t.op ≠ 119 := by
  rcases next_pick ht h with ⟨d, rfl, _⟩ | ⟨d, rfl, _⟩ | ⟨x, rfl⟩ | ⟨x, rfl⟩ | ⟨x, y, rfl⟩ | ⟨x, y, rfl⟩ <;> simp [Ct.op]

theorem impl_fwd (S : Nat → Prop) (n s : Nat) (hs : s < 4) (hn : n ≤ 200) (ts : List Ct) (hf : FitC ts) (hlen : ts.length + n ≤ 1000) (g cap : Nat) (w : World) (hT : AtP w S ts g cap) (hS : ∀ q, S q → q < w.heap.size) :
    Calls Tryz.prog 26 #[.agg #[.int .i64 s, .slice (some ⟨g, 0, none⟩) ts.length cap, .int .i64 ((200 - n : Nat))]] w (FwdEnd S (run n s ts) s w) := by
  obtain ⟨fs, hu⟩ := pl_u
  have hb0 := below_new (below_new (Below.refl w.heap.size w) (Obj.cells #[.int .i64 s, .slice (some ⟨g, 0, none⟩) ts.length cap, .int .i64 ((200 - n : Nat))] 50)) (Obj.cells #[.int .i64 0, .slice none 0 0, .int .i64 0] 50)
  have H0 : FwdAt w ((w.alloc (Obj.cells #[.int .i64 s, .slice (some ⟨g, 0, none⟩) ts.length cap, .int .i64 ((200 - n : Nat))] 50)).alloc (Obj.cells #[.int .i64 0, .slice none 0 0, .int .i64 0] 50)) S (run n s ts) s n ts g cap :=
    ⟨rfl, hf, hlen, hn, hs, hS, (Blk.new w _ _).old _, Blk.newAt (w.alloc _) _ _ (w.heap.size + 1) (by simp), hT.grown hb0, hb0⟩
  clear hb0 hT hf hn hlen
  generalize run n s ts = r at *
  generalize ht0 : 200 - n = tn at *
  go_enter Tryz.func26, Tryz.ntmps26
  go_wp2_with fail
  go_loopw [5] (fun _ wr => ∃ (m : Nat) (us : List Ct) (g' cap' : Nat), FwdAt w wr S r s m us g' cap') (fun _ wr => tl wr w.heap.size)
  case atStart => exact ⟨n, ts, g, cap, by subst ht0; exact H0⟩
  case round =>
    clear H0 ht0
    obtain ⟨m, us, g', cap', H⟩ := hrel
    have HA := H.a
    have HZ := H.z
    have HM := Lib.hid (tl_of HA H.hm)
    have hc1 := HA.cell3.2.1
    have hc2 := HA.cell3.2.2
    have hc0 := HA.cell3.1
    have hmm := H.hm
    cases us with
    | nil =>
      have h1 : r = (m, [], .done) := by rw [← H.run]; exact run_nil m s
      have HD := H.done .done h1 ⟨#[]⟩ ⟨#[100, 111, 110, 101]⟩ rfl rfl
      clear H h1 hs
      go_wp2_with (first
        | (refine wp_store_Blk rfl _ _ _ rfl (w.heap.size + 1) rfl rfl HZ pl_i rfl (by simp [Value.oneCell']) ?_)
        | (refine wp_load_Blk rfl _ _ rfl w.heap.size rfl HA hu rfl pl_i ?_))
      exact ret_Blk3 rfl (w.heap.size + 1) rfl (HZ.setRow _) hu rfl pl_i rfl HD
    | cons t us =>
      have hf := H.fit t (by simp)
      have hln := H.len
      simp only [List.length_cons] at hln HA hc1
      rcases Nat.eq_zero_or_pos m with hm0 | hpos
      · have h1 : r = (m, t :: us, .long) := by rw [← H.run, hm0]; rfl
        have HD := H.done .long h1 ⟨#[]⟩ ⟨#[108, 111, 110, 103]⟩ rfl rfl
        simp only [List.length_cons] at HD
        have e0 : (((200 - m : Nat) : Int) == 200) = true := by rw [hm0]; rfl
        clear H h1 hs hm0
        go_wp2_with (first
        | (refine wp_store_Blk rfl _ _ _ rfl (w.heap.size + 1) rfl rfl HZ pl_i rfl (by simp [Value.oneCell']) ?_)
        | (refine wp_load_Blk rfl _ _ rfl w.heap.size rfl HA hu rfl pl_i ?_))
        exact ret_Blk3 rfl (w.heap.size + 1) rfl (HZ.setRow _) hu rfl pl_i rfl HD
      · have e0 : (((200 - m : Nat) : Int) == 200) = false := by rw [beq_eq_false_iff_ne]; omega
        have hp1 : 1 ≤ m := hpos
        have htn : 200 - m ≤ 199 := by omega
        have HTN : Hid (200 - m + 1 = 200 - (m - 1)) := by show _ = _; omega
        obtain ⟨b, hl, hT⟩ := H.t.top
        have hlp : wr.cell? ⟨g', us.length, none⟩ = some (.pointer (some ⟨b, 0, none⟩)) := hl
        clear hl
        obtain ⟨pv, hSb, hN, hpv⟩ := hT.opened
        have hcp := hN.cp
        have hop := hN.op
        have hs64 : s < 64 := by omega
        go_wp2_with fail
        go_region
        have He := H.drew
        have hTe := Tree.drew1 t b hT
        have HMB : Hid (has (lastD t.ds) s = (bits .and .i64 (lastD t.ds / 2 ^ s) 1 == 1)) := rfl
        generalize (bits .and .i64 (lastD t.ds / 2 ^ s) 1 == 1) = MB at *
        clear HA HZ hc0 hc1 hc2 hlp hN hpv hcp hop hT H HTN
        generalize wr.drew = w0 at *
        have HA := He.a
        have HZ := He.z
        simp only [List.length_cons] at HA
        have hc0 := HA.cell3.1
        have hc1 := HA.cell3.2.1
        by_cases hpk : t.next s = .pick
        · obtain ⟨h115, h97, h109, h33, h63, h59, h105, h119⟩ := next_op hf.1 hpk
          have e115 := u8_ne (n := 115) h115 rfl
          have e97 := u8_ne (n := 97) h97 rfl
          have e109 := u8_ne (n := 109) h109 rfl
          have e33 := u8_ne (n := 33) h33 rfl
          have e63 := u8_ne (n := 63) h63 rfl
          have e59 := u8_ne (n := 59) h59 rfl
          have e105 := u8_ne (n := 105) h105 rfl
          have e119 := u8_ne (n := 119) h119 rfl
          obtain ⟨_, _, hN, _⟩ := hTe.opened
          have hop := hN.op
          clear h115 h97 h109 h33 h63 h59 h105 h119
          have HCR := Lib.hid (impl_chooser t hf.1 s hpk)
          have HCS := Lib.hid (impl_choices S t hf.1 us s hs hpk (200 - m) g' cap')
          have HPK := Lib.hid hpk
          clear hpk
          go_wp2_with fail
          refine (HCR.out _).mono ?_
          rintro e w' ⟨rfl, rfl⟩
          go_wp2_with (refine wp_load_Blk rfl _ _ rfl w.heap.size rfl HA hu rfl pl_i ?_)
          refine (HCS.out _ He.t (by omega)).mono ?_
          rintro e w2 ⟨g2, cap2, rfl, -, hb2, -⟩
          have He2 := He.grown hb2
          have HA2 := HA.grown hb2
          have HZ2 := HZ.grown hb2
          clear HCR HCS e115 e97 e109 e33 e63 e59 e105 e119 hop hc0 hc1
          cases ho : t.opts s with
          | nil =>
            have h1 : r = (m, t :: us, .broke t.who) := by
              have := run_pick1 (n := m - 1) (ts := us) HPK.out (by rw [ho]; rfl)
              rw [Nat.sub_add_cancel hp1, He.run] at this; exact this
            have HD := He2.done (.broke t.who) h1 ⟨#[]⟩ (whoN t.who) rfl rfl
            simp only [List.length_cons] at HD
            clear He He2 h1 ho
            simp only [List.length_nil]
            go_wp2_with (first
              | (refine wp_store_Blk rfl _ _ _ rfl (w.heap.size + 1) rfl rfl HZ2 pl_i rfl (by simp [Value.oneCell']) ?_)
              | (refine wp_load_Blk rfl _ _ rfl w.heap.size rfl HA2 hu rfl pl_i ?_))
            exact ret_Blk3 rfl (w.heap.size + 1) rfl (HZ2.setRow _) hu rfl pl_i rfl HD
          | cons q l =>
            have h1 : r = (m, t :: us, .pick) := by
              have := run_pick2 (n := m - 1) (ts := us) HPK.out (by rw [ho]; rfl)
              rw [Nat.sub_add_cancel hp1, He.run] at this; exact this
            have HD := He2.done .pick h1 (whoN t.who) ⟨#[]⟩ rfl rfl
            simp only [List.length_cons] at HD
            clear He He2 h1 ho
            simp only [List.length_cons]
            go_wp2_with (first
              | (refine wp_store_Blk rfl _ _ _ rfl (w.heap.size + 1) rfl rfl HZ2 pl_i rfl (by simp [Value.oneCell']) ?_)
              | (refine wp_load_Blk rfl _ _ rfl w.heap.size rfl HA2 hu rfl pl_i ?_))
            exact ret_Blk3 rfl (w.heap.size + 1) rfl (HZ2.setRow _) hu rfl pl_i rfl HD
        cases t with
        | n0 o d =>
          obtain ⟨hSb, hN⟩ := hTe
          have hop := hN.op
          rcases shp0 hf.1.1 with ⟨rfl | rfl | rfl, hd⟩ | ⟨rfl | rfl, hd⟩ | ⟨ho, hd⟩
          · have HX : Hid ((Ct.n0 115 d).next s = .go []) := rfl
            go_wp2_with (refine wp_load_Blk rfl _ _ rfl w.heap.size rfl HA hu rfl pl_i ?_)
            refine (He.put hp1 HX.out _ (Below.refl _ _) none 0 (by simp)).mono ?_
            rintro e w2 ⟨g2, cap2, kk, rfl, HA2, HN, hb2⟩
            go_wp2_with (refine wp_store_Blk rfl _ _ _ rfl w.heap.size rfl rfl HA2 pl_i rfl (by simp [Value.oneCell']) ?_)
            simp only [Act.put]
            go_roundw
            case rel => exact ⟨m - 1, _, g2, cap2, HN⟩
            case measure => rw [HM.out, tl_of HN.a HN.hm]; omega
          · have HX : Hid ((Ct.n0 97 d).next s = .stop true) := rfl
            have h1 : r = (m, Ct.n0 97 d :: us, .broke true) := by
              have := run_stop (n := m - 1) (ts := us) HX.out
              rw [Nat.sub_add_cancel hp1, He.run] at this; exact this
            have HD := He.done (.broke true) h1 ⟨#[]⟩ ⟨#[97, 110, 103, 101, 108]⟩ rfl rfl
            simp only [List.length_cons] at HD
            clear He h1
            go_wp2_with (first
              | (refine wp_store_Blk rfl _ _ _ rfl (w.heap.size + 1) rfl rfl HZ pl_i rfl (by simp [Value.oneCell']) ?_)
              | (refine wp_load_Blk rfl _ _ rfl w.heap.size rfl HA hu rfl pl_i ?_))
            exact ret_Blk3 rfl (w.heap.size + 1) rfl (HZ.setRow _) hu rfl pl_i rfl HD
          · have HX : Hid ((Ct.n0 109 d).next s = .stop false) := rfl
            have h1 : r = (m, Ct.n0 109 d :: us, .broke false) := by
              have := run_stop (n := m - 1) (ts := us) HX.out
              rw [Nat.sub_add_cancel hp1, He.run] at this; exact this
            have HD := He.done (.broke false) h1 ⟨#[]⟩ ⟨#[100, 101, 109, 111, 110]⟩ rfl rfl
            simp only [List.length_cons] at HD
            clear He h1
            go_wp2_with (first
              | (refine wp_store_Blk rfl _ _ _ rfl (w.heap.size + 1) rfl rfl HZ pl_i rfl (by simp [Value.oneCell']) ?_)
              | (refine wp_load_Blk rfl _ _ rfl w.heap.size rfl HA hu rfl pl_i ?_))
            exact ret_Blk3 rfl (w.heap.size + 1) rfl (HZ.setRow _) hu rfl pl_i rfl HD
          · have hMB := HMB.out
            simp only [Ct.ds] at hMB
            rw [lastD1 hd] at hMB
            cases MB
            · have HX : Hid ((Ct.n0 33 d).next s = .stop true) := by show (if has (dsF d 0) s then Nx.go [] else Nx.stop true) = _; rw [hMB]; rfl
              clear hMB
              have h1 : r = (m, Ct.n0 33 d :: us, .broke true) := by
                have := run_stop (n := m - 1) (ts := us) HX.out
                rw [Nat.sub_add_cancel hp1, He.run] at this; exact this
              have HD := He.done (.broke true) h1 ⟨#[]⟩ ⟨#[97, 110, 103, 101, 108]⟩ rfl rfl
              simp only [List.length_cons] at HD
              clear He h1
              go_wp2_with (first
                | (refine wp_store_Blk rfl _ _ _ rfl (w.heap.size + 1) rfl rfl HZ pl_i rfl (by simp [Value.oneCell']) ?_)
                | (refine wp_load_Blk rfl _ _ rfl w.heap.size rfl HA hu rfl pl_i ?_))
              exact ret_Blk3 rfl (w.heap.size + 1) rfl (HZ.setRow _) hu rfl pl_i rfl HD
            · have HX : Hid ((Ct.n0 33 d).next s = .go []) := by show (if has (dsF d 0) s then Nx.go [] else Nx.stop true) = _; rw [hMB]; rfl
              clear hMB
              go_wp2_with (refine wp_load_Blk rfl _ _ rfl w.heap.size rfl HA hu rfl pl_i ?_)
              refine (He.put hp1 HX.out _ (Below.refl _ _) none 0 (by simp)).mono ?_
              rintro e w2 ⟨g2, cap2, kk, rfl, HA2, HN, hb2⟩
              go_wp2_with (refine wp_store_Blk rfl _ _ _ rfl w.heap.size rfl rfl HA2 pl_i rfl (by simp [Value.oneCell']) ?_)
              simp only [Act.put]
              go_roundw
              case rel => exact ⟨m - 1, _, g2, cap2, HN⟩
              case measure => rw [HM.out, tl_of HN.a HN.hm]; omega
          · have hMB := HMB.out
            simp only [Ct.ds] at hMB
            rw [lastD1 hd] at hMB
            cases MB
            · have HX : Hid ((Ct.n0 63 d).next s = .stop false) := by show (if has (dsF d 0) s then Nx.go [] else Nx.stop false) = _; rw [hMB]; rfl
              clear hMB
              have h1 : r = (m, Ct.n0 63 d :: us, .broke false) := by
                have := run_stop (n := m - 1) (ts := us) HX.out
                rw [Nat.sub_add_cancel hp1, He.run] at this; exact this
              have HD := He.done (.broke false) h1 ⟨#[]⟩ ⟨#[100, 101, 109, 111, 110]⟩ rfl rfl
              simp only [List.length_cons] at HD
              clear He h1
              go_wp2_with (first
                | (refine wp_store_Blk rfl _ _ _ rfl (w.heap.size + 1) rfl rfl HZ pl_i rfl (by simp [Value.oneCell']) ?_)
                | (refine wp_load_Blk rfl _ _ rfl w.heap.size rfl HA hu rfl pl_i ?_))
              exact ret_Blk3 rfl (w.heap.size + 1) rfl (HZ.setRow _) hu rfl pl_i rfl HD
            · have HX : Hid ((Ct.n0 63 d).next s = .go []) := by show (if has (dsF d 0) s then Nx.go [] else Nx.stop false) = _; rw [hMB]; rfl
              clear hMB
              go_wp2_with (refine wp_load_Blk rfl _ _ rfl w.heap.size rfl HA hu rfl pl_i ?_)
              refine (He.put hp1 HX.out _ (Below.refl _ _) none 0 (by simp)).mono ?_
              rintro e w2 ⟨g2, cap2, kk, rfl, HA2, HN, hb2⟩
              go_wp2_with (refine wp_store_Blk rfl _ _ _ rfl w.heap.size rfl rfl HA2 pl_i rfl (by simp [Value.oneCell']) ?_)
              simp only [Act.put]
              go_roundw
              case rel => exact ⟨m - 1, _, g2, cap2, HN⟩
              case measure => rw [HM.out, tl_of HN.a HN.hm]; omega
          · exact absurd (by rcases ho with rfl | rfl <;> rfl) hpk
        | n1 o d x =>
          rcases shp1 hf.1.1.1 with ⟨rfl, hd⟩ | ⟨ho, hd⟩
          · have hTt := hTe
            obtain ⟨gp, capp, c, hS2, hN, hcx, hTx⟩ := hTe
            have hop := hN.op
            have hMB := HMB.out
            simp only [Ct.ds] at hMB
            rw [lastD1 hd] at hMB
            cases MB
            · have HX : Hid ((Ct.n1 119 d x).next s = .go []) := by show (if has (dsF d 0) s then Nx.go [x, Ct.n1 119 d x] else Nx.go []) = _; rw [hMB]; rfl
              clear hMB
              go_wp2_with (refine wp_load_Blk rfl _ _ rfl w.heap.size rfl HA hu rfl pl_i ?_)
              refine (He.put hp1 HX.out _ (Below.refl _ _) none 0 (by simp)).mono ?_
              rintro e w2 ⟨g2, cap2, kk, rfl, HA2, HN, hb2⟩
              go_wp2_with (refine wp_store_Blk rfl _ _ _ rfl w.heap.size rfl rfl HA2 pl_i rfl (by simp [Value.oneCell']) ?_)
              simp only [Act.put]
              go_roundw
              case rel => exact ⟨m - 1, _, g2, cap2, HN⟩
              case measure => rw [HM.out, tl_of HN.a HN.hm]; omega
            · have HX : Hid ((Ct.n1 119 d x).next s = .go [x, Ct.n1 119 d x]) := by show (if has (dsF d 0) s then Nx.go [x, Ct.n1 119 d x] else Nx.go []) = _; rw [hMB]; rfl
              clear hMB
              go_wp2_with fail
              refine wp_region_held_drew (S := fun W => Below w.heap.size w0 W) (by kernel_rfl) ?_ (fun hS => ?_)
              · exact (Below.refl _ _).drew
              refine wpAnyH_take (i := 1) (v := .pointer (some ⟨w.heap.size, 0, none⟩)) rfl (by kernel_rfl) (by kernel_rfl) (by kernel_rfl) (fun _ _ _ h => h) (Or.inl ⟨by rfl, ?_⟩) hS ?_
              · intro w hSw
                go_simp
              simp only [Act.put, List.getElem_toArray, List.getElem_cons_succ, List.getElem_cons_zero, List.setIfInBounds_toArray, List.set_cons_zero, List.set_cons_succ]
              refine wpAnyH_take (i := 3) (v := .pointer (some ⟨b, 0, none⟩)) rfl (by kernel_rfl) (by kernel_rfl) (by kernel_rfl) (fun _ _ _ h => h) (Or.inl ⟨by rfl, ?_⟩) hS ?_
              · intro w hSw
                go_simp
              simp only [Act.put, List.getElem_toArray, List.getElem_cons_succ, List.getElem_cons_zero, List.setIfInBounds_toArray, List.set_cons_zero, List.set_cons_succ]
              refine wpAnyH_take (i := 4) (v := .pointer (some ⟨b, 0, none⟩)) rfl (by kernel_rfl) (by kernel_rfl) (by kernel_rfl) (fun _ _ _ h => h) (Or.inl ⟨by rfl, ?_⟩) hS ?_
              · intro w hSw
                go_simp
              simp only [Act.put, List.getElem_toArray, List.getElem_cons_succ, List.getElem_cons_zero, List.setIfInBounds_toArray, List.set_cons_zero, List.set_cons_succ]
              refine wpAnyH_take (i := 5) (v := .pointer (some ⟨b, 6, none⟩)) rfl (by kernel_rfl) (by kernel_rfl) (by kernel_rfl) (fun _ _ _ h => h) (Or.inl ⟨by rfl, ?_⟩) hS ?_
              · intro w hSw
                go_simp
              simp only [Act.put, List.getElem_toArray, List.getElem_cons_succ, List.getElem_cons_zero, List.setIfInBounds_toArray, List.set_cons_zero, List.set_cons_succ]
              refine wpAnyH_take (i := 6) (v := .slice (some ⟨gp, 0, none⟩) 1 capp) rfl (by kernel_rfl) (by kernel_rfl) (by kernel_rfl) (fun _ _ _ h => h) (Or.inl ⟨by rfl, ?_⟩) hS ?_
              · rintro W hSw
                have h7 := (hN.kept (hSw.block b (He.hS b hS2.1))).parts
                clear hSw
                go_simp
              simp only [Act.put, List.getElem_toArray, List.getElem_cons_succ, List.getElem_cons_zero, List.setIfInBounds_toArray, List.set_cons_zero, List.set_cons_succ]
              refine wpAnyH_take (i := 7) (v := .pointer (some ⟨gp, 0, none⟩)) rfl (by kernel_rfl) (by kernel_rfl) (by kernel_rfl) (fun _ _ _ h => h) (Or.inl ⟨by rfl, ?_⟩) hS ?_
              · intro w hSw
                go_simp
              simp only [Act.put, List.getElem_toArray, List.getElem_cons_succ, List.getElem_cons_zero, List.setIfInBounds_toArray, List.set_cons_zero, List.set_cons_succ]
              refine wpAnyH_take (i := 8) (v := .pointer (some ⟨c, 0, none⟩)) rfl (by kernel_rfl) (by kernel_rfl) (by kernel_rfl) (fun _ _ _ h => h) (Or.inl ⟨by rfl, ?_⟩) hS ?_
              · rintro W hSw
                have h7 : W.cell? ⟨gp, 0, none⟩ = some (.pointer (some ⟨c, 0, none⟩)) := cell_kept hcx (hSw.block gp (He.hS gp hS2.2))
                clear hSw
                go_simp
              simp only [Act.put, List.getElem_toArray, List.getElem_cons_succ, List.getElem_cons_zero, List.setIfInBounds_toArray, List.set_cons_zero, List.set_cons_succ]
              refine wpAnyH_take (i := 9) (v := .pointer (some ⟨b, 0, none⟩)) rfl (by kernel_rfl) (by kernel_rfl) (by kernel_rfl) (fun _ _ _ h => h) (Or.inl ⟨by rfl, ?_⟩) hS ?_
              · intro w hSw
                go_simp
              simp only [Act.put, List.getElem_toArray, List.getElem_cons_succ, List.getElem_cons_zero, List.setIfInBounds_toArray, List.set_cons_zero, List.set_cons_succ]
              have hTx3 := Tree.drew1 _ _ hTx
              have hTt3 := Tree.drew1 _ _ hTt
              have HA3 := HA.drew
              have hbd : Below w0.heap.size w0 w0.drew := (Below.refl _ _).drew
              have hZl := HZ.drew.lt
              have h70 := HA3.cell3.1
              generalize w0.drew = W0 at *
              have HA4 := HA3.old (Obj.cells #[.pointer (some ⟨c, 0, none⟩), .pointer (some ⟨b, 0, none⟩)] 44)
              have h71 := HA4.cell3.1
              have hS4 : Below w.heap.size w0 (W0.alloc (Obj.cells #[.pointer (some ⟨c, 0, none⟩), .pointer (some ⟨b, 0, none⟩)] 44)) := hS.alloc (by omega) _
              have hb4 := below_new hbd (Obj.cells #[.pointer (some ⟨c, 0, none⟩), .pointer (some ⟨b, 0, none⟩)] 44)
              have h0 : (W0.alloc (Obj.cells #[.pointer (some ⟨c, 0, none⟩), .pointer (some ⟨b, 0, none⟩)] 44)).heap[W0.heap.size]? = some (.cells #[.pointer (some ⟨c, 0, none⟩), .pointer (some ⟨b, 0, none⟩)] 44 (0, 0)) := heap_alloc_new W0 _
              have hL4 : ∀ j z, [x, Ct.n1 119 d x][j]? = some z → ∃ g' b', (some ⟨W0.heap.size, 0, none⟩ : Option Addr) = some ⟨g', 0, none⟩ ∧ (W0.alloc (Obj.cells #[.pointer (some ⟨c, 0, none⟩), .pointer (some ⟨b, 0, none⟩)] 44)).cell? ⟨g', j, none⟩ = some (ptr b') ∧ Tree (W0.alloc (Obj.cells #[.pointer (some ⟨c, 0, none⟩), .pointer (some ⟨b, 0, none⟩)] 44)) S z b' := fun j z hj => by
                match j, hj with
                | 0, hj => simp at hj; subst hj; exact ⟨_, c, rfl, (cell_of_row _ _ 0 _ _ _ h0).trans rfl, Tree.grown (below_new (Below.refl _ _) _) _ _ hTx3⟩
                | 1, hj => simp at hj; subst hj; exact ⟨_, b, rfl, (cell_of_row _ _ 1 _ _ _ h0).trans rfl, Tree.grown (below_new (Below.refl _ _) _) _ _ hTt3⟩
                | j + 2, hj => simp at hj
              clear hc0 hc1 HZ HA hop hN
              refine wpAnyH_ready (rs := [0, 2, 10]) (by kernel_rfl) (by simp) ?_
              refine AllReadyH.cons rfl (fun K hK => ?_) (AllReadyH.cons rfl (fun K hK => ?_) (AllReadyH.cons rfl (fun K hK => ?_) AllReadyH.nil))
              · rw [if_pos (by rfl)]
                refine op_loadP _ _ rfl w.heap.size rfl HA3 hu rfl pl_i ?_
                refine hK.out _ _ hS (fun _ => ?_)
                clear hK K
                try simp only [Act.put, List.getElem_toArray, List.getElem_cons_succ, List.getElem_cons_zero, List.setIfInBounds_toArray, List.set_cons_zero, List.set_cons_succ]
                refine wpAnyH_ready (rs := [2, 10]) (by kernel_rfl) (by simp) ?_
                refine AllReadyH.cons rfl (fun K hK => ?_) (AllReadyH.cons rfl (fun K hK => ?_) AllReadyH.nil)
                · rw [if_pos (by rfl)]
                  unfold Oper.wp
                  go_simp
                  refine hK.out _ W0 hS (fun _ => ?_)
                  clear hK K
                  try simp only [Act.put, List.getElem_toArray, List.getElem_cons_succ, List.getElem_cons_zero, List.setIfInBounds_toArray, List.set_cons_zero, List.set_cons_succ]
                  refine wpAnyH_ready (rs := [10]) (by kernel_rfl) (by simp) ?_
                  refine AllReadyH.cons rfl (fun K hK => ?_) AllReadyH.nil
                  · rw [if_pos (by rfl)]
                    unfold Oper.wp
                    go_simp
                    refine hK.out _ (W0.alloc (Obj.cells #[.pointer (some ⟨c, 0, none⟩), .pointer (some ⟨b, 0, none⟩)] 44)) hS4 (fun _ => ?_)
                    clear hK K
                    try simp only [Act.put, List.getElem_toArray, List.getElem_cons_succ, List.getElem_cons_zero, List.setIfInBounds_toArray, List.set_cons_zero, List.set_cons_succ]
                    refine wpAnyH_ready (rs := [11]) (by kernel_rfl) (by simp) ?_
                    refine AllReadyH.cons rfl (fun K hK => ?_) AllReadyH.nil
                    rw [if_pos (by rfl)]
                    refine op_call 63 _ _ rfl (enters_of Tryz.func63 (by kernel_rfl) rfl) _ (He.put hp1 HX.out _ hb4 (some ⟨W0.heap.size, 0, none⟩) 2 hL4) rfl ?_
                    rintro e w2 ⟨g2, cap2, kk, rfl, HA2, HN, hb2⟩
                    refine ⟨_, rfl, ?_⟩
                    have hS5 := hS4.trans (hb2.mono (by have := HA4.lt; omega))
                    refine hK.out _ _ hS5 (fun _ => ?_)
                    clear hK K
                    try simp only [Act.put, List.getElem_toArray, List.getElem_cons_succ, List.getElem_cons_zero, List.setIfInBounds_toArray, List.set_cons_zero, List.set_cons_succ]
                    refine wpAnyH_ready (rs := [12]) (by kernel_rfl) (by simp) ?_
                    refine AllReadyH.cons rfl (fun K hK => ?_) AllReadyH.nil
                    rw [if_pos (by rfl)]
                    refine op_store_Blk _ _ _ rfl w.heap.size rfl rfl HA2 pl_i rfl (by simp [Value.oneCell']) ?_
                    refine hK.out _ _ (below_setRow hS5 (Nat.le_refl _) _) (fun _ => ?_)
                    clear hK K
                    try simp only [Act.put, List.getElem_toArray, List.getElem_cons_succ, List.getElem_cons_zero, List.setIfInBounds_toArray, List.set_cons_zero, List.set_cons_succ]
                    refine wpAnyH_done (by kernel_rfl) ?_ _
                    go_wp2_with fail
                    try simp only [Act.put]
                    go_roundw
                    case rel => exact ⟨m - 1, _, g2, cap2, HN⟩
                    case measure => rw [HM.out, tl_of HN.a HN.hm]; omega
                · rw [if_pos (by rfl)]
                  unfold Oper.wp
                  go_simp
                  refine hK.out _ (W0.alloc (Obj.cells #[.pointer (some ⟨c, 0, none⟩), .pointer (some ⟨b, 0, none⟩)] 44)) hS4 (fun _ => ?_)
                  clear hK K
                  try simp only [Act.put, List.getElem_toArray, List.getElem_cons_succ, List.getElem_cons_zero, List.setIfInBounds_toArray, List.set_cons_zero, List.set_cons_succ]
                  refine wpAnyH_ready (rs := [2]) (by kernel_rfl) (by simp) ?_
                  refine AllReadyH.cons rfl (fun K hK => ?_) AllReadyH.nil
                  · rw [if_pos (by rfl)]
                    unfold Oper.wp
                    go_simp
                    refine hK.out _ (W0.alloc (Obj.cells #[.pointer (some ⟨c, 0, none⟩), .pointer (some ⟨b, 0, none⟩)] 44)) hS4 (fun _ => ?_)
                    clear hK K
                    try simp only [Act.put, List.getElem_toArray, List.getElem_cons_succ, List.getElem_cons_zero, List.setIfInBounds_toArray, List.set_cons_zero, List.set_cons_succ]
                    refine wpAnyH_ready (rs := [11]) (by kernel_rfl) (by simp) ?_
                    refine AllReadyH.cons rfl (fun K hK => ?_) AllReadyH.nil
                    rw [if_pos (by rfl)]
                    refine op_call 63 _ _ rfl (enters_of Tryz.func63 (by kernel_rfl) rfl) _ (He.put hp1 HX.out _ hb4 (some ⟨W0.heap.size, 0, none⟩) 2 hL4) rfl ?_
                    rintro e w2 ⟨g2, cap2, kk, rfl, HA2, HN, hb2⟩
                    refine ⟨_, rfl, ?_⟩
                    have hS5 := hS4.trans (hb2.mono (by have := HA4.lt; omega))
                    refine hK.out _ _ hS5 (fun _ => ?_)
                    clear hK K
                    try simp only [Act.put, List.getElem_toArray, List.getElem_cons_succ, List.getElem_cons_zero, List.setIfInBounds_toArray, List.set_cons_zero, List.set_cons_succ]
                    refine wpAnyH_ready (rs := [12]) (by kernel_rfl) (by simp) ?_
                    refine AllReadyH.cons rfl (fun K hK => ?_) AllReadyH.nil
                    rw [if_pos (by rfl)]
                    refine op_store_Blk _ _ _ rfl w.heap.size rfl rfl HA2 pl_i rfl (by simp [Value.oneCell']) ?_
                    refine hK.out _ _ (below_setRow hS5 (Nat.le_refl _) _) (fun _ => ?_)
                    clear hK K
                    try simp only [Act.put, List.getElem_toArray, List.getElem_cons_succ, List.getElem_cons_zero, List.setIfInBounds_toArray, List.set_cons_zero, List.set_cons_succ]
                    refine wpAnyH_done (by kernel_rfl) ?_ _
                    go_wp2_with fail
                    try simp only [Act.put]
                    go_roundw
                    case rel => exact ⟨m - 1, _, g2, cap2, HN⟩
                    case measure => rw [HM.out, tl_of HN.a HN.hm]; omega
              · rw [if_pos (by rfl)]
                unfold Oper.wp
                go_simp
                refine hK.out _ W0 hS (fun _ => ?_)
                clear hK K
                try simp only [Act.put, List.getElem_toArray, List.getElem_cons_succ, List.getElem_cons_zero, List.setIfInBounds_toArray, List.set_cons_zero, List.set_cons_succ]
                refine wpAnyH_ready (rs := [0, 10]) (by kernel_rfl) (by simp) ?_
                refine AllReadyH.cons rfl (fun K hK => ?_) (AllReadyH.cons rfl (fun K hK => ?_) AllReadyH.nil)
                · rw [if_pos (by rfl)]
                  refine op_loadP _ _ rfl w.heap.size rfl HA3 hu rfl pl_i ?_
                  refine hK.out _ _ hS (fun _ => ?_)
                  clear hK K
                  try simp only [Act.put, List.getElem_toArray, List.getElem_cons_succ, List.getElem_cons_zero, List.setIfInBounds_toArray, List.set_cons_zero, List.set_cons_succ]
                  refine wpAnyH_ready (rs := [10]) (by kernel_rfl) (by simp) ?_
                  refine AllReadyH.cons rfl (fun K hK => ?_) AllReadyH.nil
                  · rw [if_pos (by rfl)]
                    unfold Oper.wp
                    go_simp
                    refine hK.out _ (W0.alloc (Obj.cells #[.pointer (some ⟨c, 0, none⟩), .pointer (some ⟨b, 0, none⟩)] 44)) hS4 (fun _ => ?_)
                    clear hK K
                    try simp only [Act.put, List.getElem_toArray, List.getElem_cons_succ, List.getElem_cons_zero, List.setIfInBounds_toArray, List.set_cons_zero, List.set_cons_succ]
                    refine wpAnyH_ready (rs := [11]) (by kernel_rfl) (by simp) ?_
                    refine AllReadyH.cons rfl (fun K hK => ?_) AllReadyH.nil
                    rw [if_pos (by rfl)]
                    refine op_call 63 _ _ rfl (enters_of Tryz.func63 (by kernel_rfl) rfl) _ (He.put hp1 HX.out _ hb4 (some ⟨W0.heap.size, 0, none⟩) 2 hL4) rfl ?_
                    rintro e w2 ⟨g2, cap2, kk, rfl, HA2, HN, hb2⟩
                    refine ⟨_, rfl, ?_⟩
                    have hS5 := hS4.trans (hb2.mono (by have := HA4.lt; omega))
                    refine hK.out _ _ hS5 (fun _ => ?_)
                    clear hK K
                    try simp only [Act.put, List.getElem_toArray, List.getElem_cons_succ, List.getElem_cons_zero, List.setIfInBounds_toArray, List.set_cons_zero, List.set_cons_succ]
                    refine wpAnyH_ready (rs := [12]) (by kernel_rfl) (by simp) ?_
                    refine AllReadyH.cons rfl (fun K hK => ?_) AllReadyH.nil
                    rw [if_pos (by rfl)]
                    refine op_store_Blk _ _ _ rfl w.heap.size rfl rfl HA2 pl_i rfl (by simp [Value.oneCell']) ?_
                    refine hK.out _ _ (below_setRow hS5 (Nat.le_refl _) _) (fun _ => ?_)
                    clear hK K
                    try simp only [Act.put, List.getElem_toArray, List.getElem_cons_succ, List.getElem_cons_zero, List.setIfInBounds_toArray, List.set_cons_zero, List.set_cons_succ]
                    refine wpAnyH_done (by kernel_rfl) ?_ _
                    go_wp2_with fail
                    try simp only [Act.put]
                    go_roundw
                    case rel => exact ⟨m - 1, _, g2, cap2, HN⟩
                    case measure => rw [HM.out, tl_of HN.a HN.hm]; omega
                · rw [if_pos (by rfl)]
                  unfold Oper.wp
                  go_simp
                  refine hK.out _ (W0.alloc (Obj.cells #[.pointer (some ⟨c, 0, none⟩), .pointer (some ⟨b, 0, none⟩)] 44)) hS4 (fun _ => ?_)
                  clear hK K
                  try simp only [Act.put, List.getElem_toArray, List.getElem_cons_succ, List.getElem_cons_zero, List.setIfInBounds_toArray, List.set_cons_zero, List.set_cons_succ]
                  refine wpAnyH_ready (rs := [0]) (by kernel_rfl) (by simp) ?_
                  refine AllReadyH.cons rfl (fun K hK => ?_) AllReadyH.nil
                  · rw [if_pos (by rfl)]
                    refine op_loadP _ _ rfl w.heap.size rfl HA4 hu rfl pl_i ?_
                    refine hK.out _ _ hS4 (fun _ => ?_)
                    clear hK K
                    try simp only [Act.put, List.getElem_toArray, List.getElem_cons_succ, List.getElem_cons_zero, List.setIfInBounds_toArray, List.set_cons_zero, List.set_cons_succ]
                    refine wpAnyH_ready (rs := [11]) (by kernel_rfl) (by simp) ?_
                    refine AllReadyH.cons rfl (fun K hK => ?_) AllReadyH.nil
                    rw [if_pos (by rfl)]
                    refine op_call 63 _ _ rfl (enters_of Tryz.func63 (by kernel_rfl) rfl) _ (He.put hp1 HX.out _ hb4 (some ⟨W0.heap.size, 0, none⟩) 2 hL4) rfl ?_
                    rintro e w2 ⟨g2, cap2, kk, rfl, HA2, HN, hb2⟩
                    refine ⟨_, rfl, ?_⟩
                    have hS5 := hS4.trans (hb2.mono (by have := HA4.lt; omega))
                    refine hK.out _ _ hS5 (fun _ => ?_)
                    clear hK K
                    try simp only [Act.put, List.getElem_toArray, List.getElem_cons_succ, List.getElem_cons_zero, List.setIfInBounds_toArray, List.set_cons_zero, List.set_cons_succ]
                    refine wpAnyH_ready (rs := [12]) (by kernel_rfl) (by simp) ?_
                    refine AllReadyH.cons rfl (fun K hK => ?_) AllReadyH.nil
                    rw [if_pos (by rfl)]
                    refine op_store_Blk _ _ _ rfl w.heap.size rfl rfl HA2 pl_i rfl (by simp [Value.oneCell']) ?_
                    refine hK.out _ _ (below_setRow hS5 (Nat.le_refl _) _) (fun _ => ?_)
                    clear hK K
                    try simp only [Act.put, List.getElem_toArray, List.getElem_cons_succ, List.getElem_cons_zero, List.setIfInBounds_toArray, List.set_cons_zero, List.set_cons_succ]
                    refine wpAnyH_done (by kernel_rfl) ?_ _
                    go_wp2_with fail
                    try simp only [Act.put]
                    go_roundw
                    case rel => exact ⟨m - 1, _, g2, cap2, HN⟩
                    case measure => rw [HM.out, tl_of HN.a HN.hm]; omega
              · rw [if_pos (by rfl)]
                unfold Oper.wp
                go_simp
                refine hK.out _ (W0.alloc (Obj.cells #[.pointer (some ⟨c, 0, none⟩), .pointer (some ⟨b, 0, none⟩)] 44)) hS4 (fun _ => ?_)
                clear hK K
                try simp only [Act.put, List.getElem_toArray, List.getElem_cons_succ, List.getElem_cons_zero, List.setIfInBounds_toArray, List.set_cons_zero, List.set_cons_succ]
                refine wpAnyH_ready (rs := [0, 2]) (by kernel_rfl) (by simp) ?_
                refine AllReadyH.cons rfl (fun K hK => ?_) (AllReadyH.cons rfl (fun K hK => ?_) AllReadyH.nil)
                · rw [if_pos (by rfl)]
                  refine op_loadP _ _ rfl w.heap.size rfl HA4 hu rfl pl_i ?_
                  refine hK.out _ _ hS4 (fun _ => ?_)
                  clear hK K
                  try simp only [Act.put, List.getElem_toArray, List.getElem_cons_succ, List.getElem_cons_zero, List.setIfInBounds_toArray, List.set_cons_zero, List.set_cons_succ]
                  refine wpAnyH_ready (rs := [2]) (by kernel_rfl) (by simp) ?_
                  refine AllReadyH.cons rfl (fun K hK => ?_) AllReadyH.nil
                  · rw [if_pos (by rfl)]
                    unfold Oper.wp
                    go_simp
                    refine hK.out _ (W0.alloc (Obj.cells #[.pointer (some ⟨c, 0, none⟩), .pointer (some ⟨b, 0, none⟩)] 44)) hS4 (fun _ => ?_)
                    clear hK K
                    try simp only [Act.put, List.getElem_toArray, List.getElem_cons_succ, List.getElem_cons_zero, List.setIfInBounds_toArray, List.set_cons_zero, List.set_cons_succ]
                    refine wpAnyH_ready (rs := [11]) (by kernel_rfl) (by simp) ?_
                    refine AllReadyH.cons rfl (fun K hK => ?_) AllReadyH.nil
                    rw [if_pos (by rfl)]
                    refine op_call 63 _ _ rfl (enters_of Tryz.func63 (by kernel_rfl) rfl) _ (He.put hp1 HX.out _ hb4 (some ⟨W0.heap.size, 0, none⟩) 2 hL4) rfl ?_
                    rintro e w2 ⟨g2, cap2, kk, rfl, HA2, HN, hb2⟩
                    refine ⟨_, rfl, ?_⟩
                    have hS5 := hS4.trans (hb2.mono (by have := HA4.lt; omega))
                    refine hK.out _ _ hS5 (fun _ => ?_)
                    clear hK K
                    try simp only [Act.put, List.getElem_toArray, List.getElem_cons_succ, List.getElem_cons_zero, List.setIfInBounds_toArray, List.set_cons_zero, List.set_cons_succ]
                    refine wpAnyH_ready (rs := [12]) (by kernel_rfl) (by simp) ?_
                    refine AllReadyH.cons rfl (fun K hK => ?_) AllReadyH.nil
                    rw [if_pos (by rfl)]
                    refine op_store_Blk _ _ _ rfl w.heap.size rfl rfl HA2 pl_i rfl (by simp [Value.oneCell']) ?_
                    refine hK.out _ _ (below_setRow hS5 (Nat.le_refl _) _) (fun _ => ?_)
                    clear hK K
                    try simp only [Act.put, List.getElem_toArray, List.getElem_cons_succ, List.getElem_cons_zero, List.setIfInBounds_toArray, List.set_cons_zero, List.set_cons_succ]
                    refine wpAnyH_done (by kernel_rfl) ?_ _
                    go_wp2_with fail
                    try simp only [Act.put]
                    go_roundw
                    case rel => exact ⟨m - 1, _, g2, cap2, HN⟩
                    case measure => rw [HM.out, tl_of HN.a HN.hm]; omega
                · rw [if_pos (by rfl)]
                  unfold Oper.wp
                  go_simp
                  refine hK.out _ (W0.alloc (Obj.cells #[.pointer (some ⟨c, 0, none⟩), .pointer (some ⟨b, 0, none⟩)] 44)) hS4 (fun _ => ?_)
                  clear hK K
                  try simp only [Act.put, List.getElem_toArray, List.getElem_cons_succ, List.getElem_cons_zero, List.setIfInBounds_toArray, List.set_cons_zero, List.set_cons_succ]
                  refine wpAnyH_ready (rs := [0]) (by kernel_rfl) (by simp) ?_
                  refine AllReadyH.cons rfl (fun K hK => ?_) AllReadyH.nil
                  · rw [if_pos (by rfl)]
                    refine op_loadP _ _ rfl w.heap.size rfl HA4 hu rfl pl_i ?_
                    refine hK.out _ _ hS4 (fun _ => ?_)
                    clear hK K
                    try simp only [Act.put, List.getElem_toArray, List.getElem_cons_succ, List.getElem_cons_zero, List.setIfInBounds_toArray, List.set_cons_zero, List.set_cons_succ]
                    refine wpAnyH_ready (rs := [11]) (by kernel_rfl) (by simp) ?_
                    refine AllReadyH.cons rfl (fun K hK => ?_) AllReadyH.nil
                    rw [if_pos (by rfl)]
                    refine op_call 63 _ _ rfl (enters_of Tryz.func63 (by kernel_rfl) rfl) _ (He.put hp1 HX.out _ hb4 (some ⟨W0.heap.size, 0, none⟩) 2 hL4) rfl ?_
                    rintro e w2 ⟨g2, cap2, kk, rfl, HA2, HN, hb2⟩
                    refine ⟨_, rfl, ?_⟩
                    have hS5 := hS4.trans (hb2.mono (by have := HA4.lt; omega))
                    refine hK.out _ _ hS5 (fun _ => ?_)
                    clear hK K
                    try simp only [Act.put, List.getElem_toArray, List.getElem_cons_succ, List.getElem_cons_zero, List.setIfInBounds_toArray, List.set_cons_zero, List.set_cons_succ]
                    refine wpAnyH_ready (rs := [12]) (by kernel_rfl) (by simp) ?_
                    refine AllReadyH.cons rfl (fun K hK => ?_) AllReadyH.nil
                    rw [if_pos (by rfl)]
                    refine op_store_Blk _ _ _ rfl w.heap.size rfl rfl HA2 pl_i rfl (by simp [Value.oneCell']) ?_
                    refine hK.out _ _ (below_setRow hS5 (Nat.le_refl _) _) (fun _ => ?_)
                    clear hK K
                    try simp only [Act.put, List.getElem_toArray, List.getElem_cons_succ, List.getElem_cons_zero, List.setIfInBounds_toArray, List.set_cons_zero, List.set_cons_succ]
                    refine wpAnyH_done (by kernel_rfl) ?_ _
                    go_wp2_with fail
                    try simp only [Act.put]
                    go_roundw
                    case rel => exact ⟨m - 1, _, g2, cap2, HN⟩
                    case measure => rw [HM.out, tl_of HN.a HN.hm]; omega
          · exact absurd (by rcases ho with rfl | rfl <;> rfl) hpk
        | n2 o d x y =>
          rcases shp2 hf.1.1.1 with ⟨ho, hd⟩ | ⟨rfl, hd⟩
          · rcases ho with rfl | ho
            · have HX : Hid ((Ct.n2 59 d x y).next s = .go [x, y]) := rfl
              obtain ⟨gp, capp, c, cy, hS2, hN, hcx, hcy, hTx, hTy⟩ := hTe
              have hop := hN.op
              have hop2 : w0.drew.cell? ⟨b, 0, none⟩ = some (.int .u8 59) := hop
              have hpt : w0.drew.cell? ⟨b, 6, none⟩ = some (.slice (some ⟨gp, 0, none⟩) 2 capp) := hN.parts
              have hcd0 : w0.drew.cell? ⟨w.heap.size, 0, none⟩ = some (.int .i64 s) := hc0
              go_wp2_with fail
              refine wp_region_still_tail 7 (by kernel_rfl) (by kernel_rfl) ?_
              simp only [List.take_succ_cons, List.take_zero, List.drop_succ_cons, List.drop_zero]
              refine wpStill_load_BlkP (by rfl) _ _ rfl w.heap.size rfl HA.drew hu rfl pl_i ?_
              simp only [Act.put, List.getElem_toArray, List.getElem_cons_succ, List.getElem_cons_zero, List.setIfInBounds_toArray, List.set_cons_zero, List.set_cons_succ]
              repeat still_step
              try refine wpStill_nil ?_
              change wpList _ _ _ _ _ w0.drew
              go_wp2_with fail
              refine (He.put hp1 HX.out _ (Below.refl _ _).drew (some ⟨gp, 0, none⟩) capp (fun j z hj => ?_)).mono ?_
              · match j, hj with
                | 0, hj => simp at hj; subst hj; exact ⟨gp, c, rfl, hcx, Tree.drew1 _ _ hTx⟩
                | 1, hj => simp at hj; subst hj; exact ⟨gp, cy, rfl, hcy, Tree.drew1 _ _ hTy⟩
                | j + 2, hj => simp at hj
              rintro e w2 ⟨g2, cap2, kk, rfl, HA2, HN, hb2⟩
              go_wp2_with (refine wp_store_Blk rfl _ _ _ rfl w.heap.size rfl rfl HA2 pl_i rfl (by simp [Value.oneCell']) ?_)
              simp only [Act.put]
              go_roundw
              case rel => exact ⟨m - 1, _, g2, cap2, HN⟩
              case measure => rw [HM.out, tl_of HN.a HN.hm]; omega
            · exact absurd (by rcases ho with rfl | rfl <;> rfl) hpk
          · obtain ⟨gp, capp, c, cy, hS2, hN, hcx, hcy, hTx, hTy⟩ := hTe
            have hop := hN.op
            have hMB := HMB.out
            simp only [Ct.ds] at hMB
            rw [lastD1 hd] at hMB
            cases MB
            · have HX : Hid ((Ct.n2 105 d x y).next s = .go [y]) := by show (if has (dsF d 0) s then Nx.go [x] else Nx.go [y]) = _; rw [hMB]; rfl
              clear hMB
              go_wp2_with fail
              refine wp_region_held_drew (S := fun W => Below w.heap.size w0 W) (by kernel_rfl) ?_ (fun hS => ?_)
              · exact (Below.refl _ _).drew
              refine wpAnyH_take (i := 1) (v := .pointer (some ⟨w.heap.size, 0, none⟩)) rfl (by kernel_rfl) (by kernel_rfl) (by kernel_rfl) (fun _ _ _ h => h) (Or.inl ⟨by rfl, ?_⟩) hS ?_
              · intro w hSw
                go_simp
              simp only [Act.put, List.getElem_toArray, List.getElem_cons_succ, List.getElem_cons_zero, List.setIfInBounds_toArray, List.set_cons_zero, List.set_cons_succ]
              refine wpAnyH_take (i := 3) (v := .pointer (some ⟨b, 0, none⟩)) rfl (by kernel_rfl) (by kernel_rfl) (by kernel_rfl) (fun _ _ _ h => h) (Or.inl ⟨by rfl, ?_⟩) hS ?_
              · intro w hSw
                go_simp
              simp only [Act.put, List.getElem_toArray, List.getElem_cons_succ, List.getElem_cons_zero, List.setIfInBounds_toArray, List.set_cons_zero, List.set_cons_succ]
              refine wpAnyH_take (i := 4) (v := .pointer (some ⟨b, 0, none⟩)) rfl (by kernel_rfl) (by kernel_rfl) (by kernel_rfl) (fun _ _ _ h => h) (Or.inl ⟨by rfl, ?_⟩) hS ?_
              · intro w hSw
                go_simp
              simp only [Act.put, List.getElem_toArray, List.getElem_cons_succ, List.getElem_cons_zero, List.setIfInBounds_toArray, List.set_cons_zero, List.set_cons_succ]
              refine wpAnyH_take (i := 5) (v := .pointer (some ⟨b, 6, none⟩)) rfl (by kernel_rfl) (by kernel_rfl) (by kernel_rfl) (fun _ _ _ h => h) (Or.inl ⟨by rfl, ?_⟩) hS ?_
              · intro w hSw
                go_simp
              simp only [Act.put, List.getElem_toArray, List.getElem_cons_succ, List.getElem_cons_zero, List.setIfInBounds_toArray, List.set_cons_zero, List.set_cons_succ]
              refine wpAnyH_take (i := 6) (v := .slice (some ⟨gp, 0, none⟩) 2 capp) rfl (by kernel_rfl) (by kernel_rfl) (by kernel_rfl) (fun _ _ _ h => h) (Or.inl ⟨by rfl, ?_⟩) hS ?_
              · rintro W hSw
                have h7 := (hN.kept (hSw.block b (He.hS b hS2.1))).parts
                clear hSw
                go_simp
              simp only [Act.put, List.getElem_toArray, List.getElem_cons_succ, List.getElem_cons_zero, List.setIfInBounds_toArray, List.set_cons_zero, List.set_cons_succ]
              refine wpAnyH_take (i := 7) (v := .pointer (some ⟨gp, 1, none⟩)) rfl (by kernel_rfl) (by kernel_rfl) (by kernel_rfl) (fun _ _ _ h => h) (Or.inl ⟨by rfl, ?_⟩) hS ?_
              · intro w hSw
                go_simp
              simp only [Act.put, List.getElem_toArray, List.getElem_cons_succ, List.getElem_cons_zero, List.setIfInBounds_toArray, List.set_cons_zero, List.set_cons_succ]
              refine wpAnyH_take (i := 8) (v := .pointer (some ⟨cy, 0, none⟩)) rfl (by kernel_rfl) (by kernel_rfl) (by kernel_rfl) (fun _ _ _ h => h) (Or.inl ⟨by rfl, ?_⟩) hS ?_
              · rintro W hSw
                have h7 : W.cell? ⟨gp, 1, none⟩ = some (.pointer (some ⟨cy, 0, none⟩)) := cell_kept hcy (hSw.block gp (He.hS gp hS2.2))
                clear hSw
                go_simp
              simp only [Act.put, List.getElem_toArray, List.getElem_cons_succ, List.getElem_cons_zero, List.setIfInBounds_toArray, List.set_cons_zero, List.set_cons_succ]
              have hTy3 := Tree.drew1 _ _ hTy
              have HA3 := HA.drew
              have hbd : Below w0.heap.size w0 w0.drew := (Below.refl _ _).drew
              have hZl := HZ.drew.lt
              have h70 := HA3.cell3.1
              generalize w0.drew = W0 at *
              have HA4 := HA3.old (Obj.cells #[.pointer (some ⟨cy, 0, none⟩)] 44)
              have h71 := HA4.cell3.1
              have hS4 : Below w.heap.size w0 (W0.alloc (Obj.cells #[.pointer (some ⟨cy, 0, none⟩)] 44)) := hS.alloc (by omega) _
              have hb4 := below_new hbd (Obj.cells #[.pointer (some ⟨cy, 0, none⟩)] 44)
              have h0 : (W0.alloc (Obj.cells #[.pointer (some ⟨cy, 0, none⟩)] 44)).heap[W0.heap.size]? = some (.cells #[.pointer (some ⟨cy, 0, none⟩)] 44 (0, 0)) := heap_alloc_new W0 _
              have hL4 : ∀ j z, [y][j]? = some z → ∃ g' b', (some ⟨W0.heap.size, 0, none⟩ : Option Addr) = some ⟨g', 0, none⟩ ∧ (W0.alloc (Obj.cells #[.pointer (some ⟨cy, 0, none⟩)] 44)).cell? ⟨g', j, none⟩ = some (ptr b') ∧ Tree (W0.alloc (Obj.cells #[.pointer (some ⟨cy, 0, none⟩)] 44)) S z b' := fun j z hj => by
                match j, hj with
                | 0, hj => simp at hj; subst hj; exact ⟨_, cy, rfl, (cell_of_row _ _ 0 _ _ _ h0).trans rfl, Tree.grown (below_new (Below.refl _ _) _) _ _ hTy3⟩
                | j + 1, hj => simp at hj
              clear hc0 hc1 HZ HA hop hN
              refine wpAnyH_ready (rs := [0, 2, 9]) (by kernel_rfl) (by simp) ?_
              refine AllReadyH.cons rfl (fun K hK => ?_) (AllReadyH.cons rfl (fun K hK => ?_) (AllReadyH.cons rfl (fun K hK => ?_) AllReadyH.nil))
              · rw [if_pos (by rfl)]
                refine op_loadP _ _ rfl w.heap.size rfl HA3 hu rfl pl_i ?_
                refine hK.out _ _ hS (fun _ => ?_)
                clear hK K
                try simp only [Act.put, List.getElem_toArray, List.getElem_cons_succ, List.getElem_cons_zero, List.setIfInBounds_toArray, List.set_cons_zero, List.set_cons_succ]
                refine wpAnyH_ready (rs := [2, 9]) (by kernel_rfl) (by simp) ?_
                refine AllReadyH.cons rfl (fun K hK => ?_) (AllReadyH.cons rfl (fun K hK => ?_) AllReadyH.nil)
                · rw [if_pos (by rfl)]
                  unfold Oper.wp
                  go_simp
                  refine hK.out _ W0 hS (fun _ => ?_)
                  clear hK K
                  try simp only [Act.put, List.getElem_toArray, List.getElem_cons_succ, List.getElem_cons_zero, List.setIfInBounds_toArray, List.set_cons_zero, List.set_cons_succ]
                  refine wpAnyH_ready (rs := [9]) (by kernel_rfl) (by simp) ?_
                  refine AllReadyH.cons rfl (fun K hK => ?_) AllReadyH.nil
                  · rw [if_pos (by rfl)]
                    unfold Oper.wp
                    go_simp
                    refine hK.out _ (W0.alloc (Obj.cells #[.pointer (some ⟨cy, 0, none⟩)] 44)) hS4 (fun _ => ?_)
                    clear hK K
                    try simp only [Act.put, List.getElem_toArray, List.getElem_cons_succ, List.getElem_cons_zero, List.setIfInBounds_toArray, List.set_cons_zero, List.set_cons_succ]
                    refine wpAnyH_ready (rs := [10]) (by kernel_rfl) (by simp) ?_
                    refine AllReadyH.cons rfl (fun K hK => ?_) AllReadyH.nil
                    rw [if_pos (by rfl)]
                    refine op_call 63 _ _ rfl (enters_of Tryz.func63 (by kernel_rfl) rfl) _ (He.put hp1 HX.out _ hb4 (some ⟨W0.heap.size, 0, none⟩) 1 hL4) rfl ?_
                    rintro e w2 ⟨g2, cap2, kk, rfl, HA2, HN, hb2⟩
                    refine ⟨_, rfl, ?_⟩
                    have hS5 := hS4.trans (hb2.mono (by have := HA4.lt; omega))
                    refine hK.out _ _ hS5 (fun _ => ?_)
                    clear hK K
                    try simp only [Act.put, List.getElem_toArray, List.getElem_cons_succ, List.getElem_cons_zero, List.setIfInBounds_toArray, List.set_cons_zero, List.set_cons_succ]
                    refine wpAnyH_ready (rs := [11]) (by kernel_rfl) (by simp) ?_
                    refine AllReadyH.cons rfl (fun K hK => ?_) AllReadyH.nil
                    rw [if_pos (by rfl)]
                    refine op_store_Blk _ _ _ rfl w.heap.size rfl rfl HA2 pl_i rfl (by simp [Value.oneCell']) ?_
                    refine hK.out _ _ (below_setRow hS5 (Nat.le_refl _) _) (fun _ => ?_)
                    clear hK K
                    try simp only [Act.put, List.getElem_toArray, List.getElem_cons_succ, List.getElem_cons_zero, List.setIfInBounds_toArray, List.set_cons_zero, List.set_cons_succ]
                    refine wpAnyH_done (by kernel_rfl) ?_ _
                    go_wp2_with fail
                    try simp only [Act.put]
                    go_roundw
                    case rel => exact ⟨m - 1, _, g2, cap2, HN⟩
                    case measure => rw [HM.out, tl_of HN.a HN.hm]; omega
                · rw [if_pos (by rfl)]
                  unfold Oper.wp
                  go_simp
                  refine hK.out _ (W0.alloc (Obj.cells #[.pointer (some ⟨cy, 0, none⟩)] 44)) hS4 (fun _ => ?_)
                  clear hK K
                  try simp only [Act.put, List.getElem_toArray, List.getElem_cons_succ, List.getElem_cons_zero, List.setIfInBounds_toArray, List.set_cons_zero, List.set_cons_succ]
                  refine wpAnyH_ready (rs := [2]) (by kernel_rfl) (by simp) ?_
                  refine AllReadyH.cons rfl (fun K hK => ?_) AllReadyH.nil
                  · rw [if_pos (by rfl)]
                    unfold Oper.wp
                    go_simp
                    refine hK.out _ (W0.alloc (Obj.cells #[.pointer (some ⟨cy, 0, none⟩)] 44)) hS4 (fun _ => ?_)
                    clear hK K
                    try simp only [Act.put, List.getElem_toArray, List.getElem_cons_succ, List.getElem_cons_zero, List.setIfInBounds_toArray, List.set_cons_zero, List.set_cons_succ]
                    refine wpAnyH_ready (rs := [10]) (by kernel_rfl) (by simp) ?_
                    refine AllReadyH.cons rfl (fun K hK => ?_) AllReadyH.nil
                    rw [if_pos (by rfl)]
                    refine op_call 63 _ _ rfl (enters_of Tryz.func63 (by kernel_rfl) rfl) _ (He.put hp1 HX.out _ hb4 (some ⟨W0.heap.size, 0, none⟩) 1 hL4) rfl ?_
                    rintro e w2 ⟨g2, cap2, kk, rfl, HA2, HN, hb2⟩
                    refine ⟨_, rfl, ?_⟩
                    have hS5 := hS4.trans (hb2.mono (by have := HA4.lt; omega))
                    refine hK.out _ _ hS5 (fun _ => ?_)
                    clear hK K
                    try simp only [Act.put, List.getElem_toArray, List.getElem_cons_succ, List.getElem_cons_zero, List.setIfInBounds_toArray, List.set_cons_zero, List.set_cons_succ]
                    refine wpAnyH_ready (rs := [11]) (by kernel_rfl) (by simp) ?_
                    refine AllReadyH.cons rfl (fun K hK => ?_) AllReadyH.nil
                    rw [if_pos (by rfl)]
                    refine op_store_Blk _ _ _ rfl w.heap.size rfl rfl HA2 pl_i rfl (by simp [Value.oneCell']) ?_
                    refine hK.out _ _ (below_setRow hS5 (Nat.le_refl _) _) (fun _ => ?_)
                    clear hK K
                    try simp only [Act.put, List.getElem_toArray, List.getElem_cons_succ, List.getElem_cons_zero, List.setIfInBounds_toArray, List.set_cons_zero, List.set_cons_succ]
                    refine wpAnyH_done (by kernel_rfl) ?_ _
                    go_wp2_with fail
                    try simp only [Act.put]
                    go_roundw
                    case rel => exact ⟨m - 1, _, g2, cap2, HN⟩
                    case measure => rw [HM.out, tl_of HN.a HN.hm]; omega
              · rw [if_pos (by rfl)]
                unfold Oper.wp
                go_simp
                refine hK.out _ W0 hS (fun _ => ?_)
                clear hK K
                try simp only [Act.put, List.getElem_toArray, List.getElem_cons_succ, List.getElem_cons_zero, List.setIfInBounds_toArray, List.set_cons_zero, List.set_cons_succ]
                refine wpAnyH_ready (rs := [0, 9]) (by kernel_rfl) (by simp) ?_
                refine AllReadyH.cons rfl (fun K hK => ?_) (AllReadyH.cons rfl (fun K hK => ?_) AllReadyH.nil)
                · rw [if_pos (by rfl)]
                  refine op_loadP _ _ rfl w.heap.size rfl HA3 hu rfl pl_i ?_
                  refine hK.out _ _ hS (fun _ => ?_)
                  clear hK K
                  try simp only [Act.put, List.getElem_toArray, List.getElem_cons_succ, List.getElem_cons_zero, List.setIfInBounds_toArray, List.set_cons_zero, List.set_cons_succ]
                  refine wpAnyH_ready (rs := [9]) (by kernel_rfl) (by simp) ?_
                  refine AllReadyH.cons rfl (fun K hK => ?_) AllReadyH.nil
                  · rw [if_pos (by rfl)]
                    unfold Oper.wp
                    go_simp
                    refine hK.out _ (W0.alloc (Obj.cells #[.pointer (some ⟨cy, 0, none⟩)] 44)) hS4 (fun _ => ?_)
                    clear hK K
                    try simp only [Act.put, List.getElem_toArray, List.getElem_cons_succ, List.getElem_cons_zero, List.setIfInBounds_toArray, List.set_cons_zero, List.set_cons_succ]
                    refine wpAnyH_ready (rs := [10]) (by kernel_rfl) (by simp) ?_
                    refine AllReadyH.cons rfl (fun K hK => ?_) AllReadyH.nil
                    rw [if_pos (by rfl)]
                    refine op_call 63 _ _ rfl (enters_of Tryz.func63 (by kernel_rfl) rfl) _ (He.put hp1 HX.out _ hb4 (some ⟨W0.heap.size, 0, none⟩) 1 hL4) rfl ?_
                    rintro e w2 ⟨g2, cap2, kk, rfl, HA2, HN, hb2⟩
                    refine ⟨_, rfl, ?_⟩
                    have hS5 := hS4.trans (hb2.mono (by have := HA4.lt; omega))
                    refine hK.out _ _ hS5 (fun _ => ?_)
                    clear hK K
                    try simp only [Act.put, List.getElem_toArray, List.getElem_cons_succ, List.getElem_cons_zero, List.setIfInBounds_toArray, List.set_cons_zero, List.set_cons_succ]
                    refine wpAnyH_ready (rs := [11]) (by kernel_rfl) (by simp) ?_
                    refine AllReadyH.cons rfl (fun K hK => ?_) AllReadyH.nil
                    rw [if_pos (by rfl)]
                    refine op_store_Blk _ _ _ rfl w.heap.size rfl rfl HA2 pl_i rfl (by simp [Value.oneCell']) ?_
                    refine hK.out _ _ (below_setRow hS5 (Nat.le_refl _) _) (fun _ => ?_)
                    clear hK K
                    try simp only [Act.put, List.getElem_toArray, List.getElem_cons_succ, List.getElem_cons_zero, List.setIfInBounds_toArray, List.set_cons_zero, List.set_cons_succ]
                    refine wpAnyH_done (by kernel_rfl) ?_ _
                    go_wp2_with fail
                    try simp only [Act.put]
                    go_roundw
                    case rel => exact ⟨m - 1, _, g2, cap2, HN⟩
                    case measure => rw [HM.out, tl_of HN.a HN.hm]; omega
                · rw [if_pos (by rfl)]
                  unfold Oper.wp
                  go_simp
                  refine hK.out _ (W0.alloc (Obj.cells #[.pointer (some ⟨cy, 0, none⟩)] 44)) hS4 (fun _ => ?_)
                  clear hK K
                  try simp only [Act.put, List.getElem_toArray, List.getElem_cons_succ, List.getElem_cons_zero, List.setIfInBounds_toArray, List.set_cons_zero, List.set_cons_succ]
                  refine wpAnyH_ready (rs := [0]) (by kernel_rfl) (by simp) ?_
                  refine AllReadyH.cons rfl (fun K hK => ?_) AllReadyH.nil
                  · rw [if_pos (by rfl)]
                    refine op_loadP _ _ rfl w.heap.size rfl HA4 hu rfl pl_i ?_
                    refine hK.out _ _ hS4 (fun _ => ?_)
                    clear hK K
                    try simp only [Act.put, List.getElem_toArray, List.getElem_cons_succ, List.getElem_cons_zero, List.setIfInBounds_toArray, List.set_cons_zero, List.set_cons_succ]
                    refine wpAnyH_ready (rs := [10]) (by kernel_rfl) (by simp) ?_
                    refine AllReadyH.cons rfl (fun K hK => ?_) AllReadyH.nil
                    rw [if_pos (by rfl)]
                    refine op_call 63 _ _ rfl (enters_of Tryz.func63 (by kernel_rfl) rfl) _ (He.put hp1 HX.out _ hb4 (some ⟨W0.heap.size, 0, none⟩) 1 hL4) rfl ?_
                    rintro e w2 ⟨g2, cap2, kk, rfl, HA2, HN, hb2⟩
                    refine ⟨_, rfl, ?_⟩
                    have hS5 := hS4.trans (hb2.mono (by have := HA4.lt; omega))
                    refine hK.out _ _ hS5 (fun _ => ?_)
                    clear hK K
                    try simp only [Act.put, List.getElem_toArray, List.getElem_cons_succ, List.getElem_cons_zero, List.setIfInBounds_toArray, List.set_cons_zero, List.set_cons_succ]
                    refine wpAnyH_ready (rs := [11]) (by kernel_rfl) (by simp) ?_
                    refine AllReadyH.cons rfl (fun K hK => ?_) AllReadyH.nil
                    rw [if_pos (by rfl)]
                    refine op_store_Blk _ _ _ rfl w.heap.size rfl rfl HA2 pl_i rfl (by simp [Value.oneCell']) ?_
                    refine hK.out _ _ (below_setRow hS5 (Nat.le_refl _) _) (fun _ => ?_)
                    clear hK K
                    try simp only [Act.put, List.getElem_toArray, List.getElem_cons_succ, List.getElem_cons_zero, List.setIfInBounds_toArray, List.set_cons_zero, List.set_cons_succ]
                    refine wpAnyH_done (by kernel_rfl) ?_ _
                    go_wp2_with fail
                    try simp only [Act.put]
                    go_roundw
                    case rel => exact ⟨m - 1, _, g2, cap2, HN⟩
                    case measure => rw [HM.out, tl_of HN.a HN.hm]; omega
              · rw [if_pos (by rfl)]
                unfold Oper.wp
                go_simp
                refine hK.out _ (W0.alloc (Obj.cells #[.pointer (some ⟨cy, 0, none⟩)] 44)) hS4 (fun _ => ?_)
                clear hK K
                try simp only [Act.put, List.getElem_toArray, List.getElem_cons_succ, List.getElem_cons_zero, List.setIfInBounds_toArray, List.set_cons_zero, List.set_cons_succ]
                refine wpAnyH_ready (rs := [0, 2]) (by kernel_rfl) (by simp) ?_
                refine AllReadyH.cons rfl (fun K hK => ?_) (AllReadyH.cons rfl (fun K hK => ?_) AllReadyH.nil)
                · rw [if_pos (by rfl)]
                  refine op_loadP _ _ rfl w.heap.size rfl HA4 hu rfl pl_i ?_
                  refine hK.out _ _ hS4 (fun _ => ?_)
                  clear hK K
                  try simp only [Act.put, List.getElem_toArray, List.getElem_cons_succ, List.getElem_cons_zero, List.setIfInBounds_toArray, List.set_cons_zero, List.set_cons_succ]
                  refine wpAnyH_ready (rs := [2]) (by kernel_rfl) (by simp) ?_
                  refine AllReadyH.cons rfl (fun K hK => ?_) AllReadyH.nil
                  · rw [if_pos (by rfl)]
                    unfold Oper.wp
                    go_simp
                    refine hK.out _ (W0.alloc (Obj.cells #[.pointer (some ⟨cy, 0, none⟩)] 44)) hS4 (fun _ => ?_)
                    clear hK K
                    try simp only [Act.put, List.getElem_toArray, List.getElem_cons_succ, List.getElem_cons_zero, List.setIfInBounds_toArray, List.set_cons_zero, List.set_cons_succ]
                    refine wpAnyH_ready (rs := [10]) (by kernel_rfl) (by simp) ?_
                    refine AllReadyH.cons rfl (fun K hK => ?_) AllReadyH.nil
                    rw [if_pos (by rfl)]
                    refine op_call 63 _ _ rfl (enters_of Tryz.func63 (by kernel_rfl) rfl) _ (He.put hp1 HX.out _ hb4 (some ⟨W0.heap.size, 0, none⟩) 1 hL4) rfl ?_
                    rintro e w2 ⟨g2, cap2, kk, rfl, HA2, HN, hb2⟩
                    refine ⟨_, rfl, ?_⟩
                    have hS5 := hS4.trans (hb2.mono (by have := HA4.lt; omega))
                    refine hK.out _ _ hS5 (fun _ => ?_)
                    clear hK K
                    try simp only [Act.put, List.getElem_toArray, List.getElem_cons_succ, List.getElem_cons_zero, List.setIfInBounds_toArray, List.set_cons_zero, List.set_cons_succ]
                    refine wpAnyH_ready (rs := [11]) (by kernel_rfl) (by simp) ?_
                    refine AllReadyH.cons rfl (fun K hK => ?_) AllReadyH.nil
                    rw [if_pos (by rfl)]
                    refine op_store_Blk _ _ _ rfl w.heap.size rfl rfl HA2 pl_i rfl (by simp [Value.oneCell']) ?_
                    refine hK.out _ _ (below_setRow hS5 (Nat.le_refl _) _) (fun _ => ?_)
                    clear hK K
                    try simp only [Act.put, List.getElem_toArray, List.getElem_cons_succ, List.getElem_cons_zero, List.setIfInBounds_toArray, List.set_cons_zero, List.set_cons_succ]
                    refine wpAnyH_done (by kernel_rfl) ?_ _
                    go_wp2_with fail
                    try simp only [Act.put]
                    go_roundw
                    case rel => exact ⟨m - 1, _, g2, cap2, HN⟩
                    case measure => rw [HM.out, tl_of HN.a HN.hm]; omega
                · rw [if_pos (by rfl)]
                  unfold Oper.wp
                  go_simp
                  refine hK.out _ (W0.alloc (Obj.cells #[.pointer (some ⟨cy, 0, none⟩)] 44)) hS4 (fun _ => ?_)
                  clear hK K
                  try simp only [Act.put, List.getElem_toArray, List.getElem_cons_succ, List.getElem_cons_zero, List.setIfInBounds_toArray, List.set_cons_zero, List.set_cons_succ]
                  refine wpAnyH_ready (rs := [0]) (by kernel_rfl) (by simp) ?_
                  refine AllReadyH.cons rfl (fun K hK => ?_) AllReadyH.nil
                  · rw [if_pos (by rfl)]
                    refine op_loadP _ _ rfl w.heap.size rfl HA4 hu rfl pl_i ?_
                    refine hK.out _ _ hS4 (fun _ => ?_)
                    clear hK K
                    try simp only [Act.put, List.getElem_toArray, List.getElem_cons_succ, List.getElem_cons_zero, List.setIfInBounds_toArray, List.set_cons_zero, List.set_cons_succ]
                    refine wpAnyH_ready (rs := [10]) (by kernel_rfl) (by simp) ?_
                    refine AllReadyH.cons rfl (fun K hK => ?_) AllReadyH.nil
                    rw [if_pos (by rfl)]
                    refine op_call 63 _ _ rfl (enters_of Tryz.func63 (by kernel_rfl) rfl) _ (He.put hp1 HX.out _ hb4 (some ⟨W0.heap.size, 0, none⟩) 1 hL4) rfl ?_
                    rintro e w2 ⟨g2, cap2, kk, rfl, HA2, HN, hb2⟩
                    refine ⟨_, rfl, ?_⟩
                    have hS5 := hS4.trans (hb2.mono (by have := HA4.lt; omega))
                    refine hK.out _ _ hS5 (fun _ => ?_)
                    clear hK K
                    try simp only [Act.put, List.getElem_toArray, List.getElem_cons_succ, List.getElem_cons_zero, List.setIfInBounds_toArray, List.set_cons_zero, List.set_cons_succ]
                    refine wpAnyH_ready (rs := [11]) (by kernel_rfl) (by simp) ?_
                    refine AllReadyH.cons rfl (fun K hK => ?_) AllReadyH.nil
                    rw [if_pos (by rfl)]
                    refine op_store_Blk _ _ _ rfl w.heap.size rfl rfl HA2 pl_i rfl (by simp [Value.oneCell']) ?_
                    refine hK.out _ _ (below_setRow hS5 (Nat.le_refl _) _) (fun _ => ?_)
                    clear hK K
                    try simp only [Act.put, List.getElem_toArray, List.getElem_cons_succ, List.getElem_cons_zero, List.setIfInBounds_toArray, List.set_cons_zero, List.set_cons_succ]
                    refine wpAnyH_done (by kernel_rfl) ?_ _
                    go_wp2_with fail
                    try simp only [Act.put]
                    go_roundw
                    case rel => exact ⟨m - 1, _, g2, cap2, HN⟩
                    case measure => rw [HM.out, tl_of HN.a HN.hm]; omega
            · have HX : Hid ((Ct.n2 105 d x y).next s = .go [x]) := by show (if has (dsF d 0) s then Nx.go [x] else Nx.go [y]) = _; rw [hMB]; rfl
              clear hMB
              go_wp2_with fail
              refine wp_region_held_drew (S := fun W => Below w.heap.size w0 W) (by kernel_rfl) ?_ (fun hS => ?_)
              · exact (Below.refl _ _).drew
              refine wpAnyH_take (i := 1) (v := .pointer (some ⟨w.heap.size, 0, none⟩)) rfl (by kernel_rfl) (by kernel_rfl) (by kernel_rfl) (fun _ _ _ h => h) (Or.inl ⟨by rfl, ?_⟩) hS ?_
              · intro w hSw
                go_simp
              simp only [Act.put, List.getElem_toArray, List.getElem_cons_succ, List.getElem_cons_zero, List.setIfInBounds_toArray, List.set_cons_zero, List.set_cons_succ]
              refine wpAnyH_take (i := 3) (v := .pointer (some ⟨b, 0, none⟩)) rfl (by kernel_rfl) (by kernel_rfl) (by kernel_rfl) (fun _ _ _ h => h) (Or.inl ⟨by rfl, ?_⟩) hS ?_
              · intro w hSw
                go_simp
              simp only [Act.put, List.getElem_toArray, List.getElem_cons_succ, List.getElem_cons_zero, List.setIfInBounds_toArray, List.set_cons_zero, List.set_cons_succ]
              refine wpAnyH_take (i := 4) (v := .pointer (some ⟨b, 0, none⟩)) rfl (by kernel_rfl) (by kernel_rfl) (by kernel_rfl) (fun _ _ _ h => h) (Or.inl ⟨by rfl, ?_⟩) hS ?_
              · intro w hSw
                go_simp
              simp only [Act.put, List.getElem_toArray, List.getElem_cons_succ, List.getElem_cons_zero, List.setIfInBounds_toArray, List.set_cons_zero, List.set_cons_succ]
              refine wpAnyH_take (i := 5) (v := .pointer (some ⟨b, 6, none⟩)) rfl (by kernel_rfl) (by kernel_rfl) (by kernel_rfl) (fun _ _ _ h => h) (Or.inl ⟨by rfl, ?_⟩) hS ?_
              · intro w hSw
                go_simp
              simp only [Act.put, List.getElem_toArray, List.getElem_cons_succ, List.getElem_cons_zero, List.setIfInBounds_toArray, List.set_cons_zero, List.set_cons_succ]
              refine wpAnyH_take (i := 6) (v := .slice (some ⟨gp, 0, none⟩) 2 capp) rfl (by kernel_rfl) (by kernel_rfl) (by kernel_rfl) (fun _ _ _ h => h) (Or.inl ⟨by rfl, ?_⟩) hS ?_
              · rintro W hSw
                have h7 := (hN.kept (hSw.block b (He.hS b hS2.1))).parts
                clear hSw
                go_simp
              simp only [Act.put, List.getElem_toArray, List.getElem_cons_succ, List.getElem_cons_zero, List.setIfInBounds_toArray, List.set_cons_zero, List.set_cons_succ]
              refine wpAnyH_take (i := 7) (v := .pointer (some ⟨gp, 0, none⟩)) rfl (by kernel_rfl) (by kernel_rfl) (by kernel_rfl) (fun _ _ _ h => h) (Or.inl ⟨by rfl, ?_⟩) hS ?_
              · intro w hSw
                go_simp
              simp only [Act.put, List.getElem_toArray, List.getElem_cons_succ, List.getElem_cons_zero, List.setIfInBounds_toArray, List.set_cons_zero, List.set_cons_succ]
              refine wpAnyH_take (i := 8) (v := .pointer (some ⟨c, 0, none⟩)) rfl (by kernel_rfl) (by kernel_rfl) (by kernel_rfl) (fun _ _ _ h => h) (Or.inl ⟨by rfl, ?_⟩) hS ?_
              · rintro W hSw
                have h7 : W.cell? ⟨gp, 0, none⟩ = some (.pointer (some ⟨c, 0, none⟩)) := cell_kept hcx (hSw.block gp (He.hS gp hS2.2))
                clear hSw
                go_simp
              simp only [Act.put, List.getElem_toArray, List.getElem_cons_succ, List.getElem_cons_zero, List.setIfInBounds_toArray, List.set_cons_zero, List.set_cons_succ]
              have hTx3 := Tree.drew1 _ _ hTx
              have HA3 := HA.drew
              have hbd : Below w0.heap.size w0 w0.drew := (Below.refl _ _).drew
              have hZl := HZ.drew.lt
              have h70 := HA3.cell3.1
              generalize w0.drew = W0 at *
              have HA4 := HA3.old (Obj.cells #[.pointer (some ⟨c, 0, none⟩)] 44)
              have h71 := HA4.cell3.1
              have hS4 : Below w.heap.size w0 (W0.alloc (Obj.cells #[.pointer (some ⟨c, 0, none⟩)] 44)) := hS.alloc (by omega) _
              have hb4 := below_new hbd (Obj.cells #[.pointer (some ⟨c, 0, none⟩)] 44)
              have h0 : (W0.alloc (Obj.cells #[.pointer (some ⟨c, 0, none⟩)] 44)).heap[W0.heap.size]? = some (.cells #[.pointer (some ⟨c, 0, none⟩)] 44 (0, 0)) := heap_alloc_new W0 _
              have hL4 : ∀ j z, [x][j]? = some z → ∃ g' b', (some ⟨W0.heap.size, 0, none⟩ : Option Addr) = some ⟨g', 0, none⟩ ∧ (W0.alloc (Obj.cells #[.pointer (some ⟨c, 0, none⟩)] 44)).cell? ⟨g', j, none⟩ = some (ptr b') ∧ Tree (W0.alloc (Obj.cells #[.pointer (some ⟨c, 0, none⟩)] 44)) S z b' := fun j z hj => by
                match j, hj with
                | 0, hj => simp at hj; subst hj; exact ⟨_, c, rfl, (cell_of_row _ _ 0 _ _ _ h0).trans rfl, Tree.grown (below_new (Below.refl _ _) _) _ _ hTx3⟩
                | j + 1, hj => simp at hj
              clear hc0 hc1 HZ HA hop hN
              refine wpAnyH_ready (rs := [0, 2, 9]) (by kernel_rfl) (by simp) ?_
              refine AllReadyH.cons rfl (fun K hK => ?_) (AllReadyH.cons rfl (fun K hK => ?_) (AllReadyH.cons rfl (fun K hK => ?_) AllReadyH.nil))
              · rw [if_pos (by rfl)]
                refine op_loadP _ _ rfl w.heap.size rfl HA3 hu rfl pl_i ?_
                refine hK.out _ _ hS (fun _ => ?_)
                clear hK K
                try simp only [Act.put, List.getElem_toArray, List.getElem_cons_succ, List.getElem_cons_zero, List.setIfInBounds_toArray, List.set_cons_zero, List.set_cons_succ]
                refine wpAnyH_ready (rs := [2, 9]) (by kernel_rfl) (by simp) ?_
                refine AllReadyH.cons rfl (fun K hK => ?_) (AllReadyH.cons rfl (fun K hK => ?_) AllReadyH.nil)
                · rw [if_pos (by rfl)]
                  unfold Oper.wp
                  go_simp
                  refine hK.out _ W0 hS (fun _ => ?_)
                  clear hK K
                  try simp only [Act.put, List.getElem_toArray, List.getElem_cons_succ, List.getElem_cons_zero, List.setIfInBounds_toArray, List.set_cons_zero, List.set_cons_succ]
                  refine wpAnyH_ready (rs := [9]) (by kernel_rfl) (by simp) ?_
                  refine AllReadyH.cons rfl (fun K hK => ?_) AllReadyH.nil
                  · rw [if_pos (by rfl)]
                    unfold Oper.wp
                    go_simp
                    refine hK.out _ (W0.alloc (Obj.cells #[.pointer (some ⟨c, 0, none⟩)] 44)) hS4 (fun _ => ?_)
                    clear hK K
                    try simp only [Act.put, List.getElem_toArray, List.getElem_cons_succ, List.getElem_cons_zero, List.setIfInBounds_toArray, List.set_cons_zero, List.set_cons_succ]
                    refine wpAnyH_ready (rs := [10]) (by kernel_rfl) (by simp) ?_
                    refine AllReadyH.cons rfl (fun K hK => ?_) AllReadyH.nil
                    rw [if_pos (by rfl)]
                    refine op_call 63 _ _ rfl (enters_of Tryz.func63 (by kernel_rfl) rfl) _ (He.put hp1 HX.out _ hb4 (some ⟨W0.heap.size, 0, none⟩) 1 hL4) rfl ?_
                    rintro e w2 ⟨g2, cap2, kk, rfl, HA2, HN, hb2⟩
                    refine ⟨_, rfl, ?_⟩
                    have hS5 := hS4.trans (hb2.mono (by have := HA4.lt; omega))
                    refine hK.out _ _ hS5 (fun _ => ?_)
                    clear hK K
                    try simp only [Act.put, List.getElem_toArray, List.getElem_cons_succ, List.getElem_cons_zero, List.setIfInBounds_toArray, List.set_cons_zero, List.set_cons_succ]
                    refine wpAnyH_ready (rs := [11]) (by kernel_rfl) (by simp) ?_
                    refine AllReadyH.cons rfl (fun K hK => ?_) AllReadyH.nil
                    rw [if_pos (by rfl)]
                    refine op_store_Blk _ _ _ rfl w.heap.size rfl rfl HA2 pl_i rfl (by simp [Value.oneCell']) ?_
                    refine hK.out _ _ (below_setRow hS5 (Nat.le_refl _) _) (fun _ => ?_)
                    clear hK K
                    try simp only [Act.put, List.getElem_toArray, List.getElem_cons_succ, List.getElem_cons_zero, List.setIfInBounds_toArray, List.set_cons_zero, List.set_cons_succ]
                    refine wpAnyH_done (by kernel_rfl) ?_ _
                    go_wp2_with fail
                    try simp only [Act.put]
                    go_roundw
                    case rel => exact ⟨m - 1, _, g2, cap2, HN⟩
                    case measure => rw [HM.out, tl_of HN.a HN.hm]; omega
                · rw [if_pos (by rfl)]
                  unfold Oper.wp
                  go_simp
                  refine hK.out _ (W0.alloc (Obj.cells #[.pointer (some ⟨c, 0, none⟩)] 44)) hS4 (fun _ => ?_)
                  clear hK K
                  try simp only [Act.put, List.getElem_toArray, List.getElem_cons_succ, List.getElem_cons_zero, List.setIfInBounds_toArray, List.set_cons_zero, List.set_cons_succ]
                  refine wpAnyH_ready (rs := [2]) (by kernel_rfl) (by simp) ?_
                  refine AllReadyH.cons rfl (fun K hK => ?_) AllReadyH.nil
                  · rw [if_pos (by rfl)]
                    unfold Oper.wp
                    go_simp
                    refine hK.out _ (W0.alloc (Obj.cells #[.pointer (some ⟨c, 0, none⟩)] 44)) hS4 (fun _ => ?_)
                    clear hK K
                    try simp only [Act.put, List.getElem_toArray, List.getElem_cons_succ, List.getElem_cons_zero, List.setIfInBounds_toArray, List.set_cons_zero, List.set_cons_succ]
                    refine wpAnyH_ready (rs := [10]) (by kernel_rfl) (by simp) ?_
                    refine AllReadyH.cons rfl (fun K hK => ?_) AllReadyH.nil
                    rw [if_pos (by rfl)]
                    refine op_call 63 _ _ rfl (enters_of Tryz.func63 (by kernel_rfl) rfl) _ (He.put hp1 HX.out _ hb4 (some ⟨W0.heap.size, 0, none⟩) 1 hL4) rfl ?_
                    rintro e w2 ⟨g2, cap2, kk, rfl, HA2, HN, hb2⟩
                    refine ⟨_, rfl, ?_⟩
                    have hS5 := hS4.trans (hb2.mono (by have := HA4.lt; omega))
                    refine hK.out _ _ hS5 (fun _ => ?_)
                    clear hK K
                    try simp only [Act.put, List.getElem_toArray, List.getElem_cons_succ, List.getElem_cons_zero, List.setIfInBounds_toArray, List.set_cons_zero, List.set_cons_succ]
                    refine wpAnyH_ready (rs := [11]) (by kernel_rfl) (by simp) ?_
                    refine AllReadyH.cons rfl (fun K hK => ?_) AllReadyH.nil
                    rw [if_pos (by rfl)]
                    refine op_store_Blk _ _ _ rfl w.heap.size rfl rfl HA2 pl_i rfl (by simp [Value.oneCell']) ?_
                    refine hK.out _ _ (below_setRow hS5 (Nat.le_refl _) _) (fun _ => ?_)
                    clear hK K
                    try simp only [Act.put, List.getElem_toArray, List.getElem_cons_succ, List.getElem_cons_zero, List.setIfInBounds_toArray, List.set_cons_zero, List.set_cons_succ]
                    refine wpAnyH_done (by kernel_rfl) ?_ _
                    go_wp2_with fail
                    try simp only [Act.put]
                    go_roundw
                    case rel => exact ⟨m - 1, _, g2, cap2, HN⟩
                    case measure => rw [HM.out, tl_of HN.a HN.hm]; omega
              · rw [if_pos (by rfl)]
                unfold Oper.wp
                go_simp
                refine hK.out _ W0 hS (fun _ => ?_)
                clear hK K
                try simp only [Act.put, List.getElem_toArray, List.getElem_cons_succ, List.getElem_cons_zero, List.setIfInBounds_toArray, List.set_cons_zero, List.set_cons_succ]
                refine wpAnyH_ready (rs := [0, 9]) (by kernel_rfl) (by simp) ?_
                refine AllReadyH.cons rfl (fun K hK => ?_) (AllReadyH.cons rfl (fun K hK => ?_) AllReadyH.nil)
                · rw [if_pos (by rfl)]
                  refine op_loadP _ _ rfl w.heap.size rfl HA3 hu rfl pl_i ?_
                  refine hK.out _ _ hS (fun _ => ?_)
                  clear hK K
                  try simp only [Act.put, List.getElem_toArray, List.getElem_cons_succ, List.getElem_cons_zero, List.setIfInBounds_toArray, List.set_cons_zero, List.set_cons_succ]
                  refine wpAnyH_ready (rs := [9]) (by kernel_rfl) (by simp) ?_
                  refine AllReadyH.cons rfl (fun K hK => ?_) AllReadyH.nil
                  · rw [if_pos (by rfl)]
                    unfold Oper.wp
                    go_simp
                    refine hK.out _ (W0.alloc (Obj.cells #[.pointer (some ⟨c, 0, none⟩)] 44)) hS4 (fun _ => ?_)
                    clear hK K
                    try simp only [Act.put, List.getElem_toArray, List.getElem_cons_succ, List.getElem_cons_zero, List.setIfInBounds_toArray, List.set_cons_zero, List.set_cons_succ]
                    refine wpAnyH_ready (rs := [10]) (by kernel_rfl) (by simp) ?_
                    refine AllReadyH.cons rfl (fun K hK => ?_) AllReadyH.nil
                    rw [if_pos (by rfl)]
                    refine op_call 63 _ _ rfl (enters_of Tryz.func63 (by kernel_rfl) rfl) _ (He.put hp1 HX.out _ hb4 (some ⟨W0.heap.size, 0, none⟩) 1 hL4) rfl ?_
                    rintro e w2 ⟨g2, cap2, kk, rfl, HA2, HN, hb2⟩
                    refine ⟨_, rfl, ?_⟩
                    have hS5 := hS4.trans (hb2.mono (by have := HA4.lt; omega))
                    refine hK.out _ _ hS5 (fun _ => ?_)
                    clear hK K
                    try simp only [Act.put, List.getElem_toArray, List.getElem_cons_succ, List.getElem_cons_zero, List.setIfInBounds_toArray, List.set_cons_zero, List.set_cons_succ]
                    refine wpAnyH_ready (rs := [11]) (by kernel_rfl) (by simp) ?_
                    refine AllReadyH.cons rfl (fun K hK => ?_) AllReadyH.nil
                    rw [if_pos (by rfl)]
                    refine op_store_Blk _ _ _ rfl w.heap.size rfl rfl HA2 pl_i rfl (by simp [Value.oneCell']) ?_
                    refine hK.out _ _ (below_setRow hS5 (Nat.le_refl _) _) (fun _ => ?_)
                    clear hK K
                    try simp only [Act.put, List.getElem_toArray, List.getElem_cons_succ, List.getElem_cons_zero, List.setIfInBounds_toArray, List.set_cons_zero, List.set_cons_succ]
                    refine wpAnyH_done (by kernel_rfl) ?_ _
                    go_wp2_with fail
                    try simp only [Act.put]
                    go_roundw
                    case rel => exact ⟨m - 1, _, g2, cap2, HN⟩
                    case measure => rw [HM.out, tl_of HN.a HN.hm]; omega
                · rw [if_pos (by rfl)]
                  unfold Oper.wp
                  go_simp
                  refine hK.out _ (W0.alloc (Obj.cells #[.pointer (some ⟨c, 0, none⟩)] 44)) hS4 (fun _ => ?_)
                  clear hK K
                  try simp only [Act.put, List.getElem_toArray, List.getElem_cons_succ, List.getElem_cons_zero, List.setIfInBounds_toArray, List.set_cons_zero, List.set_cons_succ]
                  refine wpAnyH_ready (rs := [0]) (by kernel_rfl) (by simp) ?_
                  refine AllReadyH.cons rfl (fun K hK => ?_) AllReadyH.nil
                  · rw [if_pos (by rfl)]
                    refine op_loadP _ _ rfl w.heap.size rfl HA4 hu rfl pl_i ?_
                    refine hK.out _ _ hS4 (fun _ => ?_)
                    clear hK K
                    try simp only [Act.put, List.getElem_toArray, List.getElem_cons_succ, List.getElem_cons_zero, List.setIfInBounds_toArray, List.set_cons_zero, List.set_cons_succ]
                    refine wpAnyH_ready (rs := [10]) (by kernel_rfl) (by simp) ?_
                    refine AllReadyH.cons rfl (fun K hK => ?_) AllReadyH.nil
                    rw [if_pos (by rfl)]
                    refine op_call 63 _ _ rfl (enters_of Tryz.func63 (by kernel_rfl) rfl) _ (He.put hp1 HX.out _ hb4 (some ⟨W0.heap.size, 0, none⟩) 1 hL4) rfl ?_
                    rintro e w2 ⟨g2, cap2, kk, rfl, HA2, HN, hb2⟩
                    refine ⟨_, rfl, ?_⟩
                    have hS5 := hS4.trans (hb2.mono (by have := HA4.lt; omega))
                    refine hK.out _ _ hS5 (fun _ => ?_)
                    clear hK K
                    try simp only [Act.put, List.getElem_toArray, List.getElem_cons_succ, List.getElem_cons_zero, List.setIfInBounds_toArray, List.set_cons_zero, List.set_cons_succ]
                    refine wpAnyH_ready (rs := [11]) (by kernel_rfl) (by simp) ?_
                    refine AllReadyH.cons rfl (fun K hK => ?_) AllReadyH.nil
                    rw [if_pos (by rfl)]
                    refine op_store_Blk _ _ _ rfl w.heap.size rfl rfl HA2 pl_i rfl (by simp [Value.oneCell']) ?_
                    refine hK.out _ _ (below_setRow hS5 (Nat.le_refl _) _) (fun _ => ?_)
                    clear hK K
                    try simp only [Act.put, List.getElem_toArray, List.getElem_cons_succ, List.getElem_cons_zero, List.setIfInBounds_toArray, List.set_cons_zero, List.set_cons_succ]
                    refine wpAnyH_done (by kernel_rfl) ?_ _
                    go_wp2_with fail
                    try simp only [Act.put]
                    go_roundw
                    case rel => exact ⟨m - 1, _, g2, cap2, HN⟩
                    case measure => rw [HM.out, tl_of HN.a HN.hm]; omega
              · rw [if_pos (by rfl)]
                unfold Oper.wp
                go_simp
                refine hK.out _ (W0.alloc (Obj.cells #[.pointer (some ⟨c, 0, none⟩)] 44)) hS4 (fun _ => ?_)
                clear hK K
                try simp only [Act.put, List.getElem_toArray, List.getElem_cons_succ, List.getElem_cons_zero, List.setIfInBounds_toArray, List.set_cons_zero, List.set_cons_succ]
                refine wpAnyH_ready (rs := [0, 2]) (by kernel_rfl) (by simp) ?_
                refine AllReadyH.cons rfl (fun K hK => ?_) (AllReadyH.cons rfl (fun K hK => ?_) AllReadyH.nil)
                · rw [if_pos (by rfl)]
                  refine op_loadP _ _ rfl w.heap.size rfl HA4 hu rfl pl_i ?_
                  refine hK.out _ _ hS4 (fun _ => ?_)
                  clear hK K
                  try simp only [Act.put, List.getElem_toArray, List.getElem_cons_succ, List.getElem_cons_zero, List.setIfInBounds_toArray, List.set_cons_zero, List.set_cons_succ]
                  refine wpAnyH_ready (rs := [2]) (by kernel_rfl) (by simp) ?_
                  refine AllReadyH.cons rfl (fun K hK => ?_) AllReadyH.nil
                  · rw [if_pos (by rfl)]
                    unfold Oper.wp
                    go_simp
                    refine hK.out _ (W0.alloc (Obj.cells #[.pointer (some ⟨c, 0, none⟩)] 44)) hS4 (fun _ => ?_)
                    clear hK K
                    try simp only [Act.put, List.getElem_toArray, List.getElem_cons_succ, List.getElem_cons_zero, List.setIfInBounds_toArray, List.set_cons_zero, List.set_cons_succ]
                    refine wpAnyH_ready (rs := [10]) (by kernel_rfl) (by simp) ?_
                    refine AllReadyH.cons rfl (fun K hK => ?_) AllReadyH.nil
                    rw [if_pos (by rfl)]
                    refine op_call 63 _ _ rfl (enters_of Tryz.func63 (by kernel_rfl) rfl) _ (He.put hp1 HX.out _ hb4 (some ⟨W0.heap.size, 0, none⟩) 1 hL4) rfl ?_
                    rintro e w2 ⟨g2, cap2, kk, rfl, HA2, HN, hb2⟩
                    refine ⟨_, rfl, ?_⟩
                    have hS5 := hS4.trans (hb2.mono (by have := HA4.lt; omega))
                    refine hK.out _ _ hS5 (fun _ => ?_)
                    clear hK K
                    try simp only [Act.put, List.getElem_toArray, List.getElem_cons_succ, List.getElem_cons_zero, List.setIfInBounds_toArray, List.set_cons_zero, List.set_cons_succ]
                    refine wpAnyH_ready (rs := [11]) (by kernel_rfl) (by simp) ?_
                    refine AllReadyH.cons rfl (fun K hK => ?_) AllReadyH.nil
                    rw [if_pos (by rfl)]
                    refine op_store_Blk _ _ _ rfl w.heap.size rfl rfl HA2 pl_i rfl (by simp [Value.oneCell']) ?_
                    refine hK.out _ _ (below_setRow hS5 (Nat.le_refl _) _) (fun _ => ?_)
                    clear hK K
                    try simp only [Act.put, List.getElem_toArray, List.getElem_cons_succ, List.getElem_cons_zero, List.setIfInBounds_toArray, List.set_cons_zero, List.set_cons_succ]
                    refine wpAnyH_done (by kernel_rfl) ?_ _
                    go_wp2_with fail
                    try simp only [Act.put]
                    go_roundw
                    case rel => exact ⟨m - 1, _, g2, cap2, HN⟩
                    case measure => rw [HM.out, tl_of HN.a HN.hm]; omega
                · rw [if_pos (by rfl)]
                  unfold Oper.wp
                  go_simp
                  refine hK.out _ (W0.alloc (Obj.cells #[.pointer (some ⟨c, 0, none⟩)] 44)) hS4 (fun _ => ?_)
                  clear hK K
                  try simp only [Act.put, List.getElem_toArray, List.getElem_cons_succ, List.getElem_cons_zero, List.setIfInBounds_toArray, List.set_cons_zero, List.set_cons_succ]
                  refine wpAnyH_ready (rs := [0]) (by kernel_rfl) (by simp) ?_
                  refine AllReadyH.cons rfl (fun K hK => ?_) AllReadyH.nil
                  · rw [if_pos (by rfl)]
                    refine op_loadP _ _ rfl w.heap.size rfl HA4 hu rfl pl_i ?_
                    refine hK.out _ _ hS4 (fun _ => ?_)
                    clear hK K
                    try simp only [Act.put, List.getElem_toArray, List.getElem_cons_succ, List.getElem_cons_zero, List.setIfInBounds_toArray, List.set_cons_zero, List.set_cons_succ]
                    refine wpAnyH_ready (rs := [10]) (by kernel_rfl) (by simp) ?_
                    refine AllReadyH.cons rfl (fun K hK => ?_) AllReadyH.nil
                    rw [if_pos (by rfl)]
                    refine op_call 63 _ _ rfl (enters_of Tryz.func63 (by kernel_rfl) rfl) _ (He.put hp1 HX.out _ hb4 (some ⟨W0.heap.size, 0, none⟩) 1 hL4) rfl ?_
                    rintro e w2 ⟨g2, cap2, kk, rfl, HA2, HN, hb2⟩
                    refine ⟨_, rfl, ?_⟩
                    have hS5 := hS4.trans (hb2.mono (by have := HA4.lt; omega))
                    refine hK.out _ _ hS5 (fun _ => ?_)
                    clear hK K
                    try simp only [Act.put, List.getElem_toArray, List.getElem_cons_succ, List.getElem_cons_zero, List.setIfInBounds_toArray, List.set_cons_zero, List.set_cons_succ]
                    refine wpAnyH_ready (rs := [11]) (by kernel_rfl) (by simp) ?_
                    refine AllReadyH.cons rfl (fun K hK => ?_) AllReadyH.nil
                    rw [if_pos (by rfl)]
                    refine op_store_Blk _ _ _ rfl w.heap.size rfl rfl HA2 pl_i rfl (by simp [Value.oneCell']) ?_
                    refine hK.out _ _ (below_setRow hS5 (Nat.le_refl _) _) (fun _ => ?_)
                    clear hK K
                    try simp only [Act.put, List.getElem_toArray, List.getElem_cons_succ, List.getElem_cons_zero, List.setIfInBounds_toArray, List.set_cons_zero, List.set_cons_succ]
                    refine wpAnyH_done (by kernel_rfl) ?_ _
                    go_wp2_with fail
                    try simp only [Act.put]
                    go_roundw
                    case rel => exact ⟨m - 1, _, g2, cap2, HN⟩
                    case measure => rw [HM.out, tl_of HN.a HN.hm]; omega
end Go.Proofs.YtaeibhpkcikaaaaGreatDoor

