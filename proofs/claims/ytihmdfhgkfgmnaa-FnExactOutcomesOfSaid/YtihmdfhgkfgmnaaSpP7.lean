/- Plays: the reference's plays. -/
import Derived.Test.YtihmdfhgkfgmnaaPl2
namespace Go.Proofs.Ytihmdfhgkfgmnaa
set_option linter.unusedVariables false
set_option linter.unusedSimpArgs false
open Go.RowKit Go.Shelf
set_option maxRecDepth 100000
set_option maxHeartbeats 4000000

theorem op_load_Blk {P : Program} {o : Oper} {a : Act} {w : World} {Q : Exit → Act → World → Prop} {K : Act → World → Prop} (ty : TypeId) (x : Operand) (ho : o.op = .load ty x) (g : Nat) (hx : a.eval x = .pointer (some ⟨g, 0, none⟩)) {t : TypeId} {c : Array Value} {d : TypeDesc}
    (hg : Blk w g t c) (hu : P.underlying ty = some d) (hd : (match d with | .struct _ | .array _ _ => true | _ => false) = true) (hi : (P.info? ty).map (·.size) = some c.size)
    (h : K (a.put o.dst (.agg c)) w) : o.wp P a w K Q := wp_load_row ty x ho g hx t c (0, 0) d hg.eq hu hd hi h
/-- how a play stands, as the reference names it -/
def toldS : Stand → ByteArray
  | .fin e => toldF e
  | .asks => ⟨#[97, 115, 107, 115]⟩
  | .bad => ⟨#[98, 97, 100]⟩
def PlayEnd (p : Spot) (w : World) (e : Ending) (w' : World) : Prop := Below w.heap.size w w' ∧
  ∃ g cap, e = .returned (.tuple #[.agg #[.slice (some ⟨g, 0, none⟩) p.todo.length cap, .int .i64 p.state], .int .i64 (p.used : Nat), .string (toldS p.how)]) ∧ Todo w' g p.todo ∧ p.todo.length ≤ cap
structure PlayAt (w wr : World) (S0 : Spot) (picks : ByteArray) (n s : Nat) (ts : List Ct) (k g cap : Nat) : Prop where
  play : playA (picks.data.toList.drop k) n s ts k = S0
  hk : k ≤ picks.size
  hs : s < 4
  fit : FitC ts
  len : ts.length + n ≤ 1000
  hcap : ts.length ≤ cap
  a : Blk wr (w.heap.size + 1 + 1) 65 #[.slice (some ⟨g, 0, none⟩) ts.length cap, .int .i64 s]
  z : Blk wr w.heap.size 65 #[.slice none 0 0, .int .i64 0]
  t : Todo wr g ts
  b : Below w.heap.size w wr
theorem PlayAt.grown {w wr wr' : World} {S0 : Spot} {picks : ByteArray} {n s : Nat} {ts : List Ct} {k g cap : Nat} (h : PlayAt w wr S0 picks n s ts k g cap) (hb : Below wr.heap.size wr wr') : PlayAt w wr' S0 picks n s ts k g cap :=
  ⟨h.play, h.hk, h.hs, h.fit, h.len, h.hcap, h.a.grown hb, h.z.grown hb, h.t.grown hb, below_step h.b hb⟩
/-- a run's end is stored -/
structure PlayMid (w wr : World) (S0 : Spot) (picks : ByteArray) (n s : Nat) (ts : List Ct) (k : Nat) (m : Nat) (us : List Ct) (e : Fin) (g cap : Nat) : Prop where
  play : playA (picks.data.toList.drop k) n s ts k = S0
  run : run n s ts = (m, us, e)
  hk : k ≤ picks.size
  hs : s < 4
  fit : FitC us
  len : us.length + m ≤ 1000
  hcap : us.length ≤ cap
  a : Blk wr (w.heap.size + 1 + 1) 65 #[.slice (some ⟨g, 0, none⟩) us.length cap, .int .i64 s]
  z : Blk wr w.heap.size 65 #[.slice none 0 0, .int .i64 0]
  t : Todo wr g us
  b : Below w.heap.size w wr
theorem PlayMid.grown {w wr wr' : World} {S0 : Spot} {picks : ByteArray} {n s : Nat} {ts : List Ct} {k m : Nat} {us : List Ct} {e : Fin} {g cap : Nat} (h : PlayMid w wr S0 picks n s ts k m us e g cap) (hb : Below wr.heap.size wr wr') : PlayMid w wr' S0 picks n s ts k m us e g cap :=
  ⟨h.play, h.run, h.hk, h.hs, h.fit, h.len, h.hcap, h.a.grown hb, h.z.grown hb, h.t.grown hb, below_step h.b hb⟩
theorem PlayMid.done {w wr : World} {S0 : Spot} {picks : ByteArray} {n s : Nat} {ts : List Ct} {k m : Nat} {us : List Ct} {f : Fin} {g cap : Nat} (h : PlayMid w wr S0 picks n s ts k m us f g cap) (st : Stand) (hS : S0 = ⟨m, s, us, k, st⟩) (T : ByteArray) (hT : toldS st = T) :
    PlayEnd S0 w (.returned (.tuple #[.agg #[.slice (some ⟨g, 0, none⟩) us.length cap, .int .i64 s], .int .i64 (k : Nat), .string T])) (wr.setRow w.heap.size #[.slice (some ⟨g, 0, none⟩) us.length cap, .int .i64 s]) := by
  subst hS; subst hT
  exact ⟨below_setRow h.b (Nat.le_refl _) _, g, cap, rfl, h.t.setRow (i := 0) h.z _, h.hcap⟩
theorem drop_at (picks : ByteArray) (k : Nat) (hk : k < picks.size) : picks.data.toList.drop k = bt picks k :: picks.data.toList.drop (k + 1) := drop_bt picks k hk
theorem drop_end (picks : ByteArray) : picks.data.toList.drop picks.size = [] := by
  rw [List.drop_eq_nil_iff]; exact Nat.le_of_eq rfl

theorem spec_l6Play (t : Ct) (ht : t.WF) (hlen : t.len ≤ 200) (s : Nat) (hs : s < 4) (picks : ByteArray) (hp : picks.size ≤ 4611686018427387904) (w : World) :
    Calls Try.prog 54 #[.string t.text, .int .i64 s, .string picks] w (PlayEnd (t.play s picks.data.toList) w) := by
  obtain ⟨fs, hu⟩ := at_u
  have hb0 := below_new (below_new (below_new (Below.refl w.heap.size w) (Obj.cells #[.slice none 0 0, .int .i64 0] 65)) (Obj.cells #[.string t.text] 9)) (Obj.cells #[.slice (some ⟨w.heap.size + 1, 0, none⟩) 1 1, .int .i64 s] 65)
  have H0 : PlayAt w (((w.alloc (Obj.cells #[.slice none 0 0, .int .i64 0] 65)).alloc (Obj.cells #[.string t.text] 9)).alloc (Obj.cells #[.slice (some ⟨w.heap.size + 1, 0, none⟩) 1 1, .int .i64 s] 65)) (t.play s picks.data.toList) picks 200 s [t] 0 (w.heap.size + 1) 1 := by
    refine ⟨rfl, Nat.zero_le _, hs, fun x hx => by simp at hx; subst hx; exact ⟨ht, hlen⟩, by simp, by simp, Blk.newAt ((w.alloc _).alloc _) _ _ (w.heap.size + 1 + 1) (by simp), ((Blk.new w _ _).old _).old _, ⟨fun j x hj => ?_⟩, hb0⟩
    match j, hj with
    | 0, hj =>
      simp at hj; subst hj
      refine cell_grown ?_ (below_new (Below.refl _ _) _)
      rw [cell_of_row _ _ 0 _ _ _ (heap_alloc2_new w _ _)]; rfl
    | j + 1, hj => simp at hj
  clear hb0
  generalize hS0 : t.play s picks.data.toList = S0 at *
  clear hS0
  go_enter Try.func54, Try.ntmps54
  go_wp2_with (refine wp_store_BlkNew rfl _ _ _ rfl rfl rfl at_i rfl (by simp [Value.oneCell']) ?_)
  go_loopw [10, 11] (fun l u wr => ∃ (n s' : Nat) (ts : List Ct) (k g cap : Nat), l = .int .i64 n ∧ u = .int .i64 k ∧ PlayAt w wr S0 picks n s' ts k g cap) (fun _ u _ => picks.size + 1 - (intOf u).toNat)
  case atStart => exact ⟨200, s, [t], 0, _, _, rfl, rfl, H0⟩
  case round =>
    clear H0 hs
    obtain ⟨n, s', ts', k, g, cap, rfl, rfl, H⟩ := hrel
    have HLD := H.a
    go_wp2_with (refine wp_load_Blk rfl _ _ rfl (w.heap.size + 1 + 1) rfl HLD hu rfl at_i ?_)
    refine (spec_l6Run n s' H.hs ts' H.fit H.len g cap H.hcap wr H.t).mono ?_
    rintro e w1 ⟨hb1, g2, cap2, he, hT2, hc2⟩
    have HFR := fit_run (s := s') H.fit H.len
    obtain ⟨⟨m, us, f⟩, hR⟩ : ∃ r, r = run n s' ts' := ⟨_, rfl⟩
    rw [← hR] at hT2 hc2 HFR he
    have he2 : e = .returned (.tuple #[.agg #[.slice (some ⟨g2, 0, none⟩) us.length cap2, .int .i64 s'], .string (toldF f), .int .i64 (m : Nat)]) := he
    subst he2
    clear he
    have H1 := H.grown hb1
    have HMID : PlayMid w (w1.setRow (w.heap.size + 1 + 1) #[.slice (some ⟨g2, 0, none⟩) us.length cap2, .int .i64 s']) S0 picks n s' ts' k m us f g2 cap2 :=
      ⟨H1.play, hR.symm, H1.hk, H1.hs, HFR.1, HFR.2, hc2, H1.a.setRow _, H1.z.setRowOther _ _ (by omega), hT2.setRow H1.a _, below_setRow H1.b (by omega) _⟩
    have HST := H1.a
    clear hR H H1 HLD hT2 hc2 HFR hb1
    have HLD := HMID.a
    have HZ := HMID.z
    by_cases hpk : f = .pick
    · subst hpk
      obtain ⟨t1, us1, rfl, hnx, hne, hm1, hm2⟩ := run_pick HMID.run
      rw [show toldF .pick = ⟨#[99, 104, 111, 105, 99, 101]⟩ from rfl]
      simp only [List.length_cons] at HLD HZ HST ⊢
      by_cases hkk : k = picks.size
      · have hS := play_asks HMID.run k
        rw [← drop_end picks, ← hkk, HMID.play] at hS
        have HD := HMID.done .asks hS ⟨#[97, 115, 107, 115]⟩ rfl
        have hki : ((k : Int) == (picks.size : Int)) = true := by rw [hkk]; simp
        clear HMID hkk hS hnx hne
        go_wp2_with (first
          | (refine wp_store_Blk rfl _ _ _ rfl (w.heap.size + 1 + 1) rfl rfl HST at_i rfl (by simp [Value.oneCell']) ?_)
          | (refine wp_store_Blk rfl _ _ _ rfl w.heap.size rfl rfl HZ at_i rfl (by simp [Value.oneCell']) ?_)
          | (refine wp_load_Blk rfl _ _ rfl (w.heap.size + 1 + 1) rfl HLD hu rfl at_i ?_))
        exact ret_Blk3 rfl w.heap.size rfl (HZ.setRow _) hu rfl at_i rfl HD
      · have hlt : k < picks.size := by have := HMID.hk; omega
        have hki : ((k : Int) == (picks.size : Int)) = false := by rw [beq_eq_false_iff_ne]; omega
        have hli : (k : Int) < (picks.size : Int) := by omega
        have hdr := drop_at picks k hlt
        have hfit := HMID.fit t1 (by simp)
        have hlen1 := HMID.len
        simp only [List.length_cons] at hlen1
        have hfd := isOpt_find (l := t1.opts s') (fun _ h => opts_lt h) (bt picks k)
        have hsz : (optsB (t1.opts s')).size ≤ 4294967296 := by rw [optsB_size]; have := opts_le t1 s'; omega
        have HDR := Lib.hid hdr
        clear hdr
        go_wp2_with (refine wp_store_Blk rfl _ _ _ rfl (w.heap.size + 1 + 1) rfl rfl HST at_i rfl (by simp [Value.oneCell']) ?_)
        clear HST
        generalize w1.setRow (w.heap.size + 1 + 1) #[.slice (some ⟨g2, 0, none⟩) (us1.length + 1) cap2, .int .i64 s'] = w2 at *
        cases hio : isOpt (t1.opts s') (bt picks k)
        · have hS0 := play_bad HMID.run hio (picks.data.toList.drop (k + 1)) k
          rw [← HDR.out, HMID.play] at hS0
          have HS0 := Lib.hid hS0
          rw [hio] at hfd
          have hneg : firstIdx (optsB (t1.opts s')) (bt picks k) < 0 := by simpa using hfd
          clear hio hfd hS0
          refine wp_region_held_drew (S := fun W => Below w2.heap.size w2 W) (by kernel_rfl) ?_ (fun hS => ?_)
          · exact (Below.refl _ _).drew
          refine wpAnyH_take (i := 0) (v := .agg #[.slice (some ⟨g2, 0, none⟩) (us1.length + 1) cap2, .int .i64 s']) rfl (by kernel_rfl) (by kernel_rfl) (by kernel_rfl) (fun _ _ _ h => h) (yields_Blk (by rfl) _ _ rfl (w.heap.size + 1 + 1) rfl (fun _ h => HLD.grown h) hu rfl at_i) hS ?_
          simp only [Act.put, List.getElem_toArray, List.getElem_cons_succ, List.getElem_cons_zero, List.setIfInBounds_toArray, List.set_cons_zero, List.set_cons_succ]
          refine wpAnyH_take (i := 2) (v := .string picks) rfl (by kernel_rfl) (by kernel_rfl) (by kernel_rfl) (fun _ _ _ h => h) (Or.inl ⟨by rfl, ?_⟩) hS ?_
          · intro w hSw
            go_simp
          simp only [Act.put, List.getElem_toArray, List.getElem_cons_succ, List.getElem_cons_zero, List.setIfInBounds_toArray, List.set_cons_zero, List.set_cons_succ]
          refine wpAnyH_take (i := 3) (v := .int .i64 k) rfl (by kernel_rfl) (by kernel_rfl) (by kernel_rfl) (fun _ _ _ h => h) (Or.inl ⟨by rfl, ?_⟩) hS ?_
          · intro w hSw
            go_simp
          simp only [Act.put, List.getElem_toArray, List.getElem_cons_succ, List.getElem_cons_zero, List.setIfInBounds_toArray, List.set_cons_zero, List.set_cons_succ]
          refine wpAnyH_take (i := 4) (v := .int .u8 ((bt picks k).toNat : Int)) rfl (by kernel_rfl) (by kernel_rfl) (by kernel_rfl) (fun _ _ _ h => h) (Or.inl ⟨by rfl, ?_⟩) hS ?_
          · intro w hSw
            go_simp
          simp only [Act.put, List.getElem_toArray, List.getElem_cons_succ, List.getElem_cons_zero, List.setIfInBounds_toArray, List.set_cons_zero, List.set_cons_succ]
          refine wpAnyH_ready (rs := [1]) (by kernel_rfl) (by simp) ?_
          refine AllReadyH.cons rfl (fun K hK => ?_) AllReadyH.nil
          rw [if_pos (by rfl)]
          refine op_call 58 _ _ rfl (enters_of Try.func58 (by kernel_rfl) rfl) _ (spec_l6Options t1 hfit.1 us1 s' HMID.hs hnx g2 cap2 _ (HMID.t.grown hS) (by omega)) rfl ?_
          rintro e w3 ⟨rfl, hb3⟩
          refine ⟨_, rfl, ?_⟩
          refine hK.out _ _ ?_ (fun hS1 => ?_)
          · exact below_step hS hb3
          clear hK K
          replace hS := hS1
          clear hS1
          simp only [Act.put, List.getElem_toArray, List.getElem_cons_succ, List.getElem_cons_zero, List.setIfInBounds_toArray, List.set_cons_zero, List.set_cons_succ]
          refine wpAnyH_ready (rs := [5]) (by kernel_rfl) (by simp) ?_
          refine AllReadyH.cons rfl (fun K hK => ?_) AllReadyH.nil
          rw [if_pos (by rfl)]
          refine op_call 118 _ _ rfl (enters_of Try.func118 (by kernel_rfl) rfl) _ (spec_l14Find _ _ _ hsz) rfl ?_
          rintro e w4 ⟨rfl, rfl⟩
          refine ⟨_, rfl, ?_⟩
          refine hK.out _ _ ?_ (fun hS1 => ?_)
          · exact hS
          clear hK K
          replace hS := hS1
          clear hS1
          simp only [Act.put, List.getElem_toArray, List.getElem_cons_succ, List.getElem_cons_zero, List.setIfInBounds_toArray, List.set_cons_zero, List.set_cons_succ]
          refine wpAnyH_take (i := 6) (v := .bool true) rfl (by kernel_rfl) (by kernel_rfl) (by kernel_rfl) (fun _ _ _ h => h) (Or.inl ⟨by rfl, ?_⟩) hS ?_
          · intro w hSw
            go_simp
          simp only [Act.put, List.getElem_toArray, List.getElem_cons_succ, List.getElem_cons_zero, List.setIfInBounds_toArray, List.set_cons_zero, List.set_cons_succ]
          refine wpAnyH_take (i := 7) (v := .bool true) rfl (by kernel_rfl) (by kernel_rfl) (by kernel_rfl) (fun _ _ _ h => h) (Or.inl ⟨by rfl, ?_⟩) hS ?_
          · intro w hSw
            go_simp
          simp only [Act.put, List.getElem_toArray, List.getElem_cons_succ, List.getElem_cons_zero, List.setIfInBounds_toArray, List.set_cons_zero, List.set_cons_succ]
          refine wpAnyH_done (by kernel_rfl) ?_ _
          have HMID3 := HMID.grown hS
          clear HMID HLD HZ
          have HLD := HMID3.a
          have HZ := HMID3.z
          have HD := HMID3.done .bad HS0.out ⟨#[98, 97, 100]⟩ rfl
          simp only [List.length_cons] at HLD HZ HD
          go_wp2_with (first
            | (refine wp_store_Blk rfl _ _ _ rfl w.heap.size rfl rfl HZ at_i rfl (by simp [Value.oneCell']) ?_)
            | (refine wp_load_Blk rfl _ _ rfl (w.heap.size + 1 + 1) rfl HLD hu rfl at_i ?_))
          exact ret_Blk3 rfl w.heap.size rfl (HZ.setRow _) hu rfl at_i rfl HD
        · obtain ⟨d, hd, hcd⟩ := isOpt_iff.1 hio
          have hS0 := play_on HMID.run hd hcd (picks.data.toList.drop (k + 1)) k
          rw [← HDR.out, HMID.play] at hS0
          have HS0 := Lib.hid hS0
          rw [hio] at hfd
          have hneg : ¬ firstIdx (optsB (t1.opts s')) (bt picks k) < 0 := by have : 0 ≤ firstIdx (optsB (t1.opts s')) (bt picks k) := by simpa using hfd
                                                                             omega
          have hcc : (bt picks k).toNat = 48 + d := by unfold chc at hcd; omega
          have HCC := Lib.hid hcc
          have HHD := Lib.hid hd
          clear hio hfd hS0 hcd hcc hd
          refine wp_region_held_drew (S := fun W => Below w2.heap.size w2 W) (by kernel_rfl) ?_ (fun hS => ?_)
          · exact (Below.refl _ _).drew
          refine wpAnyH_take (i := 0) (v := .agg #[.slice (some ⟨g2, 0, none⟩) (us1.length + 1) cap2, .int .i64 s']) rfl (by kernel_rfl) (by kernel_rfl) (by kernel_rfl) (fun _ _ _ h => h) (yields_Blk (by rfl) _ _ rfl (w.heap.size + 1 + 1) rfl (fun _ h => HLD.grown h) hu rfl at_i) hS ?_
          simp only [Act.put, List.getElem_toArray, List.getElem_cons_succ, List.getElem_cons_zero, List.setIfInBounds_toArray, List.set_cons_zero, List.set_cons_succ]
          refine wpAnyH_take (i := 2) (v := .string picks) rfl (by kernel_rfl) (by kernel_rfl) (by kernel_rfl) (fun _ _ _ h => h) (Or.inl ⟨by rfl, ?_⟩) hS ?_
          · intro w hSw
            go_simp
          simp only [Act.put, List.getElem_toArray, List.getElem_cons_succ, List.getElem_cons_zero, List.setIfInBounds_toArray, List.set_cons_zero, List.set_cons_succ]
          refine wpAnyH_take (i := 3) (v := .int .i64 k) rfl (by kernel_rfl) (by kernel_rfl) (by kernel_rfl) (fun _ _ _ h => h) (Or.inl ⟨by rfl, ?_⟩) hS ?_
          · intro w hSw
            go_simp
          simp only [Act.put, List.getElem_toArray, List.getElem_cons_succ, List.getElem_cons_zero, List.setIfInBounds_toArray, List.set_cons_zero, List.set_cons_succ]
          refine wpAnyH_take (i := 4) (v := .int .u8 ((bt picks k).toNat : Int)) rfl (by kernel_rfl) (by kernel_rfl) (by kernel_rfl) (fun _ _ _ h => h) (Or.inl ⟨by rfl, ?_⟩) hS ?_
          · intro w hSw
            go_simp
          simp only [Act.put, List.getElem_toArray, List.getElem_cons_succ, List.getElem_cons_zero, List.setIfInBounds_toArray, List.set_cons_zero, List.set_cons_succ]
          refine wpAnyH_ready (rs := [1]) (by kernel_rfl) (by simp) ?_
          refine AllReadyH.cons rfl (fun K hK => ?_) AllReadyH.nil
          rw [if_pos (by rfl)]
          refine op_call 58 _ _ rfl (enters_of Try.func58 (by kernel_rfl) rfl) _ (spec_l6Options t1 hfit.1 us1 s' HMID.hs hnx g2 cap2 _ (HMID.t.grown hS) (by omega)) rfl ?_
          rintro e w3 ⟨rfl, hb3⟩
          refine ⟨_, rfl, ?_⟩
          refine hK.out _ _ ?_ (fun hS1 => ?_)
          · exact below_step hS hb3
          clear hK K
          replace hS := hS1
          clear hS1
          simp only [Act.put, List.getElem_toArray, List.getElem_cons_succ, List.getElem_cons_zero, List.setIfInBounds_toArray, List.set_cons_zero, List.set_cons_succ]
          refine wpAnyH_ready (rs := [5]) (by kernel_rfl) (by simp) ?_
          refine AllReadyH.cons rfl (fun K hK => ?_) AllReadyH.nil
          rw [if_pos (by rfl)]
          refine op_call 118 _ _ rfl (enters_of Try.func118 (by kernel_rfl) rfl) _ (spec_l14Find _ _ _ hsz) rfl ?_
          rintro e w4 ⟨rfl, rfl⟩
          refine ⟨_, rfl, ?_⟩
          refine hK.out _ _ ?_ (fun hS1 => ?_)
          · exact hS
          clear hK K
          replace hS := hS1
          clear hS1
          simp only [Act.put, List.getElem_toArray, List.getElem_cons_succ, List.getElem_cons_zero, List.setIfInBounds_toArray, List.set_cons_zero, List.set_cons_succ]
          refine wpAnyH_take (i := 6) (v := .bool false) rfl (by kernel_rfl) (by kernel_rfl) (by kernel_rfl) (fun _ _ _ h => h) (Or.inl ⟨by rfl, ?_⟩) hS ?_
          · intro w hSw
            go_simp
          simp only [Act.put, List.getElem_toArray, List.getElem_cons_succ, List.getElem_cons_zero, List.setIfInBounds_toArray, List.set_cons_zero, List.set_cons_succ]
          refine wpAnyH_take (i := 7) (v := .bool false) rfl (by kernel_rfl) (by kernel_rfl) (by kernel_rfl) (fun _ _ _ h => h) (Or.inl ⟨by rfl, ?_⟩) hS ?_
          · intro w hSw
            go_simp
          simp only [Act.put, List.getElem_toArray, List.getElem_cons_succ, List.getElem_cons_zero, List.setIfInBounds_toArray, List.set_cons_zero, List.set_cons_succ]
          refine wpAnyH_done (by kernel_rfl) ?_ _
          have HMID3 := HMID.grown hS
          clear HMID HLD HZ
          have HLD := HMID3.a
          simp only [List.length_cons] at HLD
          go_wp2_with fail
          refine wp_region_held_drew (S := fun _ => True) (by kernel_rfl) ?_ (fun hS => ?_)
          · exact trivial
          refine wpAnyH_take (i := 1) (v := .string picks) rfl (by kernel_rfl) (by kernel_rfl) (by kernel_rfl) (fun _ _ _ h => h) (Or.inl ⟨by rfl, ?_⟩) hS ?_
          · intro w hSw
            go_simp
          simp only [Act.put, List.getElem_toArray, List.getElem_cons_succ, List.getElem_cons_zero, List.setIfInBounds_toArray, List.set_cons_zero, List.set_cons_succ]
          refine wpAnyH_take (i := 2) (v := .int .i64 k) rfl (by kernel_rfl) (by kernel_rfl) (by kernel_rfl) (fun _ _ _ h => h) (Or.inl ⟨by rfl, ?_⟩) hS ?_
          · intro w hSw
            go_simp
          simp only [Act.put, List.getElem_toArray, List.getElem_cons_succ, List.getElem_cons_zero, List.setIfInBounds_toArray, List.set_cons_zero, List.set_cons_succ]
          refine wpAnyH_take (i := 3) (v := .int .u8 ((bt picks k).toNat : Int)) rfl (by kernel_rfl) (by kernel_rfl) (by kernel_rfl) (fun _ _ _ h => h) (Or.inl ⟨by rfl, ?_⟩) hS ?_
          · intro w hSw
            go_simp
          simp only [Act.put, List.getElem_toArray, List.getElem_cons_succ, List.getElem_cons_zero, List.setIfInBounds_toArray, List.set_cons_zero, List.set_cons_succ]
          refine wpAnyH_ready (rs := [0]) (by kernel_rfl) (by simp) ?_
          refine AllReadyH.cons rfl (fun K hK => ?_) AllReadyH.nil
          rw [if_pos (by rfl)]
          refine op_load_Blk _ _ rfl (w.heap.size + 1 + 1) rfl HLD.drew hu rfl at_i ?_
          refine hK.out _ _ trivial (fun _ => ?_)
          clear hK K
          simp only [Act.put, List.getElem_toArray, List.getElem_cons_succ, List.getElem_cons_zero, List.setIfInBounds_toArray, List.set_cons_zero, List.set_cons_succ]
          refine wpAnyH_ready (rs := [4]) (by kernel_rfl) (by simp) ?_
          refine AllReadyH.cons rfl (fun K hK => ?_) AllReadyH.nil
          rw [if_pos (by rfl)]
          refine op_call 119 _ _ rfl (enters_of Try.func119 (by kernel_rfl) rfl) _ (spec_l6Choose t1 us1 s' HMID3.hs _ d HCC.out hnx HHD.out g2 cap2 _ hfit.1 hfit.2 HMID3.t.drew (by omega) HMID3.hcap) rfl ?_
          rintro e w5 ⟨hb5, g3, cap3, rfl, hT5, hc5⟩
          refine ⟨_, rfl, ?_⟩
          refine hK.out _ _ trivial (fun _ => ?_)
          clear hK K
          simp only [Act.put, List.getElem_toArray, List.getElem_cons_succ, List.getElem_cons_zero, List.setIfInBounds_toArray, List.set_cons_zero, List.set_cons_succ]
          refine wpAnyH_ready (rs := [5]) (by kernel_rfl) (by simp) ?_
          refine AllReadyH.cons rfl (fun K hK => ?_) AllReadyH.nil
          rw [if_pos (by rfl)]
          have HB5 := HLD.drew.grown hb5
          have HF := fit_chose HMID3.fit s' d
          have hlt5 := chose_lt HMID3.hs HHD.out
          have HR : PlayAt w (w5.setRow (w.heap.size + 1 + 1) #[.slice (some ⟨g3, 0, none⟩) ((t1.chose s' d).2 ++ us1).length cap3, .int .i64 ((t1.chose s' d).1 : Nat)]) S0 picks (m - 1) (t1.chose s' d).1 ((t1.chose s' d).2 ++ us1) (k + 1) g3 cap3 :=
            ⟨HS0.out.symm, by omega, hlt5, HF.1, by rw [List.length_append]; omega, hc5, HB5.setRow _, (HMID3.z.drew.grown hb5).setRowOther _ _ (by omega), hT5.setRow HB5 _, below_setRow (below_step HMID3.b.drew hb5) (by omega) _⟩
          refine op_store_Blk _ _ _ rfl (w.heap.size + 1 + 1) rfl rfl HB5 at_i rfl (by simp [Value.oneCell']) ?_
          refine hK.out _ _ trivial (fun _ => ?_)
          clear hK K
          simp only [Act.put, List.getElem_toArray, List.getElem_cons_succ, List.getElem_cons_zero, List.setIfInBounds_toArray, List.set_cons_zero, List.set_cons_succ]
          refine wpAnyH_done (by kernel_rfl) ?_ _
          clear HMID3 HLD HB5 hT5 HHD HCC HS0 HF
          go_wp2_with fail
          rw [List.length_append] at HR
          go_roundw
          case rel => exact ⟨m - 1, _, _, k + 1, g3, cap3, by congr 1; omega, by go_num, HR⟩
          case measure => simp [intOf]; omega
    · have hS := play_end HMID.run hpk (picks.data.toList.drop k) k
      rw [HMID.play] at hS
      cases f with
      | pick => exact absurd rfl hpk
      | done =>
        have HD := HMID.done _ hS ⟨#[100, 111, 110, 101]⟩ rfl
        clear HMID hS hpk
        rw [show toldF .done = ⟨#[100, 111, 110, 101]⟩ from rfl]
        go_wp2_with (first
          | (refine wp_store_Blk rfl _ _ _ rfl (w.heap.size + 1 + 1) rfl rfl HST at_i rfl (by simp [Value.oneCell']) ?_)
          | (refine wp_store_Blk rfl _ _ _ rfl w.heap.size rfl rfl HZ at_i rfl (by simp [Value.oneCell']) ?_)
          | (refine wp_load_Blk rfl _ _ rfl (w.heap.size + 1 + 1) rfl HLD hu rfl at_i ?_))
        exact ret_Blk3 rfl w.heap.size rfl (HZ.setRow _) hu rfl at_i rfl HD
      | long =>
        have HD := HMID.done _ hS ⟨#[108, 111, 110, 103]⟩ rfl
        clear HMID hS hpk
        rw [show toldF .long = ⟨#[108, 111, 110, 103]⟩ from rfl]
        go_wp2_with (first
          | (refine wp_store_Blk rfl _ _ _ rfl (w.heap.size + 1 + 1) rfl rfl HST at_i rfl (by simp [Value.oneCell']) ?_)
          | (refine wp_store_Blk rfl _ _ _ rfl w.heap.size rfl rfl HZ at_i rfl (by simp [Value.oneCell']) ?_)
          | (refine wp_load_Blk rfl _ _ rfl (w.heap.size + 1 + 1) rfl HLD hu rfl at_i ?_))
        exact ret_Blk3 rfl w.heap.size rfl (HZ.setRow _) hu rfl at_i rfl HD
      | broke a =>
        cases a
        · have HD := HMID.done _ hS ⟨#[100, 101, 109, 111, 110]⟩ rfl
          clear HMID hS hpk
          rw [show toldF (.broke false) = ⟨#[100, 101, 109, 111, 110]⟩ from rfl]
          go_wp2_with (first
            | (refine wp_store_Blk rfl _ _ _ rfl (w.heap.size + 1 + 1) rfl rfl HST at_i rfl (by simp [Value.oneCell']) ?_)
            | (refine wp_store_Blk rfl _ _ _ rfl w.heap.size rfl rfl HZ at_i rfl (by simp [Value.oneCell']) ?_)
            | (refine wp_load_Blk rfl _ _ rfl (w.heap.size + 1 + 1) rfl HLD hu rfl at_i ?_))
          exact ret_Blk3 rfl w.heap.size rfl (HZ.setRow _) hu rfl at_i rfl HD
        · have HD := HMID.done _ hS ⟨#[97, 110, 103, 101, 108]⟩ rfl
          clear HMID hS hpk
          rw [show toldF (.broke true) = ⟨#[97, 110, 103, 101, 108]⟩ from rfl]
          go_wp2_with (first
            | (refine wp_store_Blk rfl _ _ _ rfl (w.heap.size + 1 + 1) rfl rfl HST at_i rfl (by simp [Value.oneCell']) ?_)
            | (refine wp_store_Blk rfl _ _ _ rfl w.heap.size rfl rfl HZ at_i rfl (by simp [Value.oneCell']) ?_)
            | (refine wp_load_Blk rfl _ _ rfl (w.heap.size + 1 + 1) rfl HLD hu rfl at_i ?_))
          exact ret_Blk3 rfl w.heap.size rfl (HZ.setRow _) hu rfl at_i rfl HD

end Go.Proofs.Ytihmdfhgkfgmnaa
