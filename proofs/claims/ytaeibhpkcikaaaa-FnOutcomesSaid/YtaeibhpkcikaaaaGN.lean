/- Plays: the reference's plays. -/
import Derived.Test.YtaeibhpkcikaaaaGL
import Derived.OwnWalk
/- SpP7 -/
namespace Go.Proofs.Ytaeibhpkcikaaaa
set_option linter.unusedVariables false
set_option linter.unusedSimpArgs false
open Go.RowKit Go.Shelf
set_option maxRecDepth 100000
set_option maxHeartbeats 4000000

theorem op_load_Blk {P : Program} {o : Oper} {a : Act} {w : World} {Q : Exit → Act → World → Prop} {K : Act → World → Prop} (ty : TypeId) (x : Operand) (ho : o.op = .load ty x) (g : Nat) (hx : a.eval x = .pointer (some ⟨g, 0, none⟩)) {t : TypeId} {c : Array Value} {d : TypeDesc}
    (hg : Blk w g t c) (hu : P.underlying ty = some d) (hd : (match d with | .struct _ | .array _ _ => true | _ => false) = true) (hi : (P.info? ty).map (·.size) = some c.size)
    (h : K (a.put o.dst (.agg c)) w) : o.wp P a w K Q := wp_load_row ty x ho g hx t c (0, 0) d hg.eq hu hd hi h
/-- how a play stands, as the reference names it -/
def toldS : Stand → ByteArray
  | .fin e => toldF e
  | .asks => ⟨#[97, 115, 107, 115]⟩
  | .bad => ⟨#[98, 97, 100]⟩
def PlayEnd (p : Spot) (w : World) (e : Ending) (w' : World) : Prop := Below w.heap.size w w' ∧
  ∃ g cap, e = .returned (.tuple #[.agg #[.slice (some ⟨g, 0, none⟩) p.todo.length cap, .int .i64 p.state], .int .i64 (p.used : Nat), .string (toldS p.how)]) ∧ Todo w' g p.todo ∧ p.todo.length ≤ cap
structure PlayAt (w wr : World) (S0 : Spot) (picks : ByteArray) (n s : Nat) (ts : List Ct) (k g cap : Nat) : Prop where
  play : playA (picks.data.toList.drop k) n s ts k = S0
  hk : k ≤ picks.size
  hs : s < 4
  fit : FitC ts
  len : ts.length + n ≤ 1000
  hcap : ts.length ≤ cap
  a : Blk wr (w.heap.size + 1 + 1) 69 #[.slice (some ⟨g, 0, none⟩) ts.length cap, .int .i64 s]
  z : Blk wr w.heap.size 69 #[.slice none 0 0, .int .i64 0]
  t : Todo wr g ts
  b : Below w.heap.size w wr
theorem PlayAt.grown {w wr wr' : World} {S0 : Spot} {picks : ByteArray} {n s : Nat} {ts : List Ct} {k g cap : Nat} (h : PlayAt w wr S0 picks n s ts k g cap) (hb : Below wr.heap.size wr wr') : PlayAt w wr' S0 picks n s ts k g cap :=
  ⟨h.play, h.hk, h.hs, h.fit, h.len, h.hcap, h.a.grown hb, h.z.grown hb, h.t.grown hb, below_step h.b hb⟩
/-- a run's end is stored -/
structure PlayMid (w wr : World) (S0 : Spot) (picks : ByteArray) (n s : Nat) (ts : List Ct) (k : Nat) (m : Nat) (us : List Ct) (e : Fin) (g cap : Nat) : Prop where
  play : playA (picks.data.toList.drop k) n s ts k = S0
  run : run n s ts = (m, us, e)
  hk : k ≤ picks.size
  hs : s < 4
  fit : FitC us
  len : us.length + m ≤ 1000
  hcap : us.length ≤ cap
  a : Blk wr (w.heap.size + 1 + 1) 69 #[.slice (some ⟨g, 0, none⟩) us.length cap, .int .i64 s]
  z : Blk wr w.heap.size 69 #[.slice none 0 0, .int .i64 0]
  t : Todo wr g us
  b : Below w.heap.size w wr
theorem PlayMid.grown {w wr wr' : World} {S0 : Spot} {picks : ByteArray} {n s : Nat} {ts : List Ct} {k m : Nat} {us : List Ct} {e : Fin} {g cap : Nat} (h : PlayMid w wr S0 picks n s ts k m us e g cap) (hb : Below wr.heap.size wr wr') : PlayMid w wr' S0 picks n s ts k m us e g cap :=
  ⟨h.play, h.run, h.hk, h.hs, h.fit, h.len, h.hcap, h.a.grown hb, h.z.grown hb, h.t.grown hb, below_step h.b hb⟩
theorem PlayMid.done {w wr : World} {S0 : Spot} {picks : ByteArray} {n s : Nat} {ts : List Ct} {k m : Nat} {us : List Ct} {f : Fin} {g cap : Nat} (h : PlayMid w wr S0 picks n s ts k m us f g cap) (st : Stand) (hS : S0 = ⟨m, s, us, k, st⟩) (T : ByteArray) (hT : toldS st = T) :
    PlayEnd S0 w (.returned (.tuple #[.agg #[.slice (some ⟨g, 0, none⟩) us.length cap, .int .i64 s], .int .i64 (k : Nat), .string T])) (wr.setRow w.heap.size #[.slice (some ⟨g, 0, none⟩) us.length cap, .int .i64 s]) := by
  subst hS; subst hT
  exact ⟨below_setRow h.b (Nat.le_refl _) _, g, cap, rfl, h.t.setRow (i := 0) h.z _, h.hcap⟩
theorem drop_at (picks : ByteArray) (k : Nat) (hk : k < picks.size) : picks.data.toList.drop k = bt picks k :: picks.data.toList.drop (k + 1) := drop_bt picks k hk
theorem drop_end (picks : ByteArray) : picks.data.toList.drop picks.size = [] := by
  rw [List.drop_eq_nil_iff]; exact Nat.le_of_eq rfl

theorem spec_l6Play (t : Ct) (ht : t.WF) (hlen : t.len ≤ 200) (s : Nat) (hs : s < 4) (picks : ByteArray) (hp : picks.size ≤ 4611686018427387904) (w : World) :
    Calls Try.prog 47 #[.string t.text, .int .i64 s, .string picks] w (PlayEnd (t.play s picks.data.toList) w) := by
  obtain ⟨fs, hu⟩ := at_u
  have hb0 := below_new (below_new (below_new (Below.refl w.heap.size w) (Obj.cells #[.slice none 0 0, .int .i64 0] 69)) (Obj.cells #[.string t.text] 9)) (Obj.cells #[.slice (some ⟨w.heap.size + 1, 0, none⟩) 1 1, .int .i64 s] 69)
  have H0 : PlayAt w (((w.alloc (Obj.cells #[.slice none 0 0, .int .i64 0] 69)).alloc (Obj.cells #[.string t.text] 9)).alloc (Obj.cells #[.slice (some ⟨w.heap.size + 1, 0, none⟩) 1 1, .int .i64 s] 69)) (t.play s picks.data.toList) picks 200 s [t] 0 (w.heap.size + 1) 1 := by
    refine ⟨rfl, Nat.zero_le _, hs, fun x hx => by simp at hx; subst hx; exact ⟨ht, hlen⟩, by simp, by simp, Blk.newAt ((w.alloc _).alloc _) _ _ (w.heap.size + 1 + 1) (by simp), ((Blk.new w _ _).old _).old _, ⟨fun j x hj => ?_⟩, hb0⟩
    match j, hj with
    | 0, hj =>
      simp at hj; subst hj
      refine cell_grown ?_ (below_new (Below.refl _ _) _)
      rw [cell_of_row _ _ 0 _ _ _ (heap_alloc2_new w _ _)]; rfl
    | j + 1, hj => simp at hj
  clear hb0
  generalize hS0 : t.play s picks.data.toList = S0 at *
  clear hS0
  go_enter Try.func47, Try.ntmps47
  go_wp2_with (refine wp_store_BlkNew rfl _ _ _ rfl rfl rfl at_i rfl (by simp [Value.oneCell']) ?_)
  go_loopw [10, 11] (fun l u wr => ∃ (n s' : Nat) (ts : List Ct) (k g cap : Nat), l = .int .i64 n ∧ u = .int .i64 k ∧ PlayAt w wr S0 picks n s' ts k g cap) (fun _ u _ => picks.size + 1 - (intOf u).toNat)
  case atStart => exact ⟨200, s, [t], 0, _, _, rfl, rfl, H0⟩
  case round =>
    clear H0 hs
    obtain ⟨n, s', ts', k, g, cap, rfl, rfl, H⟩ := hrel
    have HLD := H.a
    go_wp2_with (refine wp_load_Blk rfl _ _ rfl (w.heap.size + 1 + 1) rfl HLD hu rfl at_i ?_)
    refine (spec_l6Run n s' H.hs ts' H.fit H.len g cap H.hcap wr H.t).mono ?_
    rintro e w1 ⟨hb1, g2, cap2, he, hT2, hc2⟩
    have HFR := fit_run (s := s') H.fit H.len
    obtain ⟨⟨m, us, f⟩, hR⟩ : ∃ r, r = run n s' ts' := ⟨_, rfl⟩
    rw [← hR] at hT2 hc2 HFR he
    have he2 : e = .returned (.tuple #[.agg #[.slice (some ⟨g2, 0, none⟩) us.length cap2, .int .i64 s'], .string (toldF f), .int .i64 (m : Nat)]) := he
    subst he2
    clear he
    have H1 := H.grown hb1
    have HMID : PlayMid w (w1.setRow (w.heap.size + 1 + 1) #[.slice (some ⟨g2, 0, none⟩) us.length cap2, .int .i64 s']) S0 picks n s' ts' k m us f g2 cap2 :=
      ⟨H1.play, hR.symm, H1.hk, H1.hs, HFR.1, HFR.2, hc2, H1.a.setRow _, H1.z.setRowOther _ _ (by omega), hT2.setRow H1.a _, below_setRow H1.b (by omega) _⟩
    have HST := H1.a
    clear hR H H1 HLD hT2 hc2 HFR hb1
    have HLD := HMID.a
    have HZ := HMID.z
    by_cases hpk : f = .pick
    · subst hpk
      obtain ⟨t1, us1, rfl, hnx, hne, hm1, hm2⟩ := run_pick HMID.run
      rw [show toldF .pick = ⟨#[99, 104, 111, 105, 99, 101]⟩ from rfl]
      simp only [List.length_cons] at HLD HZ HST ⊢
      by_cases hkk : k = picks.size
      · have hS := play_asks HMID.run k
        rw [← drop_end picks, ← hkk, HMID.play] at hS
        have HD := HMID.done .asks hS ⟨#[97, 115, 107, 115]⟩ rfl
        have hki : ((k : Int) == (picks.size : Int)) = true := by rw [hkk]; simp
        clear HMID hkk hS hnx hne
        go_wp2_with (first
          | (refine wp_store_Blk rfl _ _ _ rfl (w.heap.size + 1 + 1) rfl rfl HST at_i rfl (by simp [Value.oneCell']) ?_)
          | (refine wp_store_Blk rfl _ _ _ rfl w.heap.size rfl rfl HZ at_i rfl (by simp [Value.oneCell']) ?_)
          | (refine wp_load_Blk rfl _ _ rfl (w.heap.size + 1 + 1) rfl HLD hu rfl at_i ?_))
        exact ret_Blk3 rfl w.heap.size rfl (HZ.setRow _) hu rfl at_i rfl HD
      · have hlt : k < picks.size := by have := HMID.hk; omega
        have hki : ((k : Int) == (picks.size : Int)) = false := by rw [beq_eq_false_iff_ne]; omega
        have hli : (k : Int) < (picks.size : Int) := by omega
        have hdr := drop_at picks k hlt
        have hfit := HMID.fit t1 (by simp)
        have hlen1 := HMID.len
        simp only [List.length_cons] at hlen1
        have hfd := isOpt_find (l := t1.opts s') (fun _ h => opts_lt h) (bt picks k)
        have hsz : (optsB (t1.opts s')).size ≤ 4294967296 := by rw [optsB_size]; have := opts_le t1 s'; omega
        have HDR := Lib.hid hdr
        clear hdr
        go_wp2_with (refine wp_store_Blk rfl _ _ _ rfl (w.heap.size + 1 + 1) rfl rfl HST at_i rfl (by simp [Value.oneCell']) ?_)
        clear HST
        generalize w1.setRow (w.heap.size + 1 + 1) #[.slice (some ⟨g2, 0, none⟩) (us1.length + 1) cap2, .int .i64 s'] = w2 at *
        cases hio : isOpt (t1.opts s') (bt picks k)
        · have hS0 := play_bad HMID.run hio (picks.data.toList.drop (k + 1)) k
          rw [← HDR.out, HMID.play] at hS0
          have HS0 := Lib.hid hS0
          rw [hio] at hfd
          have hneg : firstIdx (optsB (t1.opts s')) (bt picks k) < 0 := by simpa using hfd
          clear hio hfd hS0
          refine wp_region_held_drew (S := fun W => Below w2.heap.size w2 W) (by kernel_rfl) ?_ (fun hS => ?_)
          · exact (Below.refl _ _).drew
          refine wpAnyH_take (i := 0) (v := .agg #[.slice (some ⟨g2, 0, none⟩) (us1.length + 1) cap2, .int .i64 s']) rfl (by kernel_rfl) (by kernel_rfl) (by kernel_rfl) (fun _ _ _ h => h) (yields_Blk (by rfl) _ _ rfl (w.heap.size + 1 + 1) rfl (fun _ h => HLD.grown h) hu rfl at_i) hS ?_
          simp only [Act.put, List.getElem_toArray, List.getElem_cons_succ, List.getElem_cons_zero, List.setIfInBounds_toArray, List.set_cons_zero, List.set_cons_succ]
          refine wpAnyH_take (i := 2) (v := .string picks) rfl (by kernel_rfl) (by kernel_rfl) (by kernel_rfl) (fun _ _ _ h => h) (Or.inl ⟨by rfl, ?_⟩) hS ?_
          · intro w hSw
            go_simp
          simp only [Act.put, List.getElem_toArray, List.getElem_cons_succ, List.getElem_cons_zero, List.setIfInBounds_toArray, List.set_cons_zero, List.set_cons_succ]
          refine wpAnyH_take (i := 3) (v := .int .i64 k) rfl (by kernel_rfl) (by kernel_rfl) (by kernel_rfl) (fun _ _ _ h => h) (Or.inl ⟨by rfl, ?_⟩) hS ?_
          · intro w hSw
            go_simp
          simp only [Act.put, List.getElem_toArray, List.getElem_cons_succ, List.getElem_cons_zero, List.setIfInBounds_toArray, List.set_cons_zero, List.set_cons_succ]
          refine wpAnyH_take (i := 4) (v := .int .u8 ((bt picks k).toNat : Int)) rfl (by kernel_rfl) (by kernel_rfl) (by kernel_rfl) (fun _ _ _ h => h) (Or.inl ⟨by rfl, ?_⟩) hS ?_
          · intro w hSw
            go_simp
          simp only [Act.put, List.getElem_toArray, List.getElem_cons_succ, List.getElem_cons_zero, List.setIfInBounds_toArray, List.set_cons_zero, List.set_cons_succ]
          refine wpAnyH_ready (rs := [1]) (by kernel_rfl) (by simp) ?_
          refine AllReadyH.cons rfl (fun K hK => ?_) AllReadyH.nil
          rw [if_pos (by rfl)]
          refine op_call 50 _ _ rfl (enters_of Try.func50 (by kernel_rfl) rfl) _ (spec_l6Options t1 hfit.1 us1 s' HMID.hs hnx g2 cap2 _ (HMID.t.grown hS) (by omega)) rfl ?_
          rintro e w3 ⟨rfl, hb3⟩
          refine ⟨_, rfl, ?_⟩
          refine hK.out _ _ ?_ (fun hS1 => ?_)
          · exact below_step hS hb3
          clear hK K
          replace hS := hS1
          clear hS1
          simp only [Act.put, List.getElem_toArray, List.getElem_cons_succ, List.getElem_cons_zero, List.setIfInBounds_toArray, List.set_cons_zero, List.set_cons_succ]
          refine wpAnyH_ready (rs := [5]) (by kernel_rfl) (by simp) ?_
          refine AllReadyH.cons rfl (fun K hK => ?_) AllReadyH.nil
          rw [if_pos (by rfl)]
          refine op_call 96 _ _ rfl (enters_of Try.func96 (by kernel_rfl) rfl) _ (spec_l14Find _ _ _ hsz) rfl ?_
          rintro e w4 ⟨rfl, rfl⟩
          refine ⟨_, rfl, ?_⟩
          refine hK.out _ _ ?_ (fun hS1 => ?_)
          · exact hS
          clear hK K
          replace hS := hS1
          clear hS1
          simp only [Act.put, List.getElem_toArray, List.getElem_cons_succ, List.getElem_cons_zero, List.setIfInBounds_toArray, List.set_cons_zero, List.set_cons_succ]
          refine wpAnyH_take (i := 6) (v := .bool true) rfl (by kernel_rfl) (by kernel_rfl) (by kernel_rfl) (fun _ _ _ h => h) (Or.inl ⟨by rfl, ?_⟩) hS ?_
          · intro w hSw
            go_simp
          simp only [Act.put, List.getElem_toArray, List.getElem_cons_succ, List.getElem_cons_zero, List.setIfInBounds_toArray, List.set_cons_zero, List.set_cons_succ]
          refine wpAnyH_take (i := 7) (v := .bool true) rfl (by kernel_rfl) (by kernel_rfl) (by kernel_rfl) (fun _ _ _ h => h) (Or.inl ⟨by rfl, ?_⟩) hS ?_
          · intro w hSw
            go_simp
          simp only [Act.put, List.getElem_toArray, List.getElem_cons_succ, List.getElem_cons_zero, List.setIfInBounds_toArray, List.set_cons_zero, List.set_cons_succ]
          refine wpAnyH_done (by kernel_rfl) ?_ _
          have HMID3 := HMID.grown hS
          clear HMID HLD HZ
          have HLD := HMID3.a
          have HZ := HMID3.z
          have HD := HMID3.done .bad HS0.out ⟨#[98, 97, 100]⟩ rfl
          simp only [List.length_cons] at HLD HZ HD
          go_wp2_with (first
            | (refine wp_store_Blk rfl _ _ _ rfl w.heap.size rfl rfl HZ at_i rfl (by simp [Value.oneCell']) ?_)
            | (refine wp_load_Blk rfl _ _ rfl (w.heap.size + 1 + 1) rfl HLD hu rfl at_i ?_))
          exact ret_Blk3 rfl w.heap.size rfl (HZ.setRow _) hu rfl at_i rfl HD
        · obtain ⟨d, hd, hcd⟩ := isOpt_iff.1 hio
          have hS0 := play_on HMID.run hd hcd (picks.data.toList.drop (k + 1)) k
          rw [← HDR.out, HMID.play] at hS0
          have HS0 := Lib.hid hS0
          rw [hio] at hfd
          have hneg : ¬ firstIdx (optsB (t1.opts s')) (bt picks k) < 0 := by have : 0 ≤ firstIdx (optsB (t1.opts s')) (bt picks k) := by simpa using hfd
                                                                             omega
          have hcc : (bt picks k).toNat = 48 + d := by unfold chc at hcd; omega
          have HCC := Lib.hid hcc
          have HHD := Lib.hid hd
          clear hio hfd hS0 hcd hcc hd
          refine wp_region_held_drew (S := fun W => Below w2.heap.size w2 W) (by kernel_rfl) ?_ (fun hS => ?_)
          · exact (Below.refl _ _).drew
          refine wpAnyH_take (i := 0) (v := .agg #[.slice (some ⟨g2, 0, none⟩) (us1.length + 1) cap2, .int .i64 s']) rfl (by kernel_rfl) (by kernel_rfl) (by kernel_rfl) (fun _ _ _ h => h) (yields_Blk (by rfl) _ _ rfl (w.heap.size + 1 + 1) rfl (fun _ h => HLD.grown h) hu rfl at_i) hS ?_
          simp only [Act.put, List.getElem_toArray, List.getElem_cons_succ, List.getElem_cons_zero, List.setIfInBounds_toArray, List.set_cons_zero, List.set_cons_succ]
          refine wpAnyH_take (i := 2) (v := .string picks) rfl (by kernel_rfl) (by kernel_rfl) (by kernel_rfl) (fun _ _ _ h => h) (Or.inl ⟨by rfl, ?_⟩) hS ?_
          · intro w hSw
            go_simp
          simp only [Act.put, List.getElem_toArray, List.getElem_cons_succ, List.getElem_cons_zero, List.setIfInBounds_toArray, List.set_cons_zero, List.set_cons_succ]
          refine wpAnyH_take (i := 3) (v := .int .i64 k) rfl (by kernel_rfl) (by kernel_rfl) (by kernel_rfl) (fun _ _ _ h => h) (Or.inl ⟨by rfl, ?_⟩) hS ?_
          · intro w hSw
            go_simp
          simp only [Act.put, List.getElem_toArray, List.getElem_cons_succ, List.getElem_cons_zero, List.setIfInBounds_toArray, List.set_cons_zero, List.set_cons_succ]
          refine wpAnyH_take (i := 4) (v := .int .u8 ((bt picks k).toNat : Int)) rfl (by kernel_rfl) (by kernel_rfl) (by kernel_rfl) (fun _ _ _ h => h) (Or.inl ⟨by rfl, ?_⟩) hS ?_
          · intro w hSw
            go_simp
          simp only [Act.put, List.getElem_toArray, List.getElem_cons_succ, List.getElem_cons_zero, List.setIfInBounds_toArray, List.set_cons_zero, List.set_cons_succ]
          refine wpAnyH_ready (rs := [1]) (by kernel_rfl) (by simp) ?_
          refine AllReadyH.cons rfl (fun K hK => ?_) AllReadyH.nil
          rw [if_pos (by rfl)]
          refine op_call 50 _ _ rfl (enters_of Try.func50 (by kernel_rfl) rfl) _ (spec_l6Options t1 hfit.1 us1 s' HMID.hs hnx g2 cap2 _ (HMID.t.grown hS) (by omega)) rfl ?_
          rintro e w3 ⟨rfl, hb3⟩
          refine ⟨_, rfl, ?_⟩
          refine hK.out _ _ ?_ (fun hS1 => ?_)
          · exact below_step hS hb3
          clear hK K
          replace hS := hS1
          clear hS1
          simp only [Act.put, List.getElem_toArray, List.getElem_cons_succ, List.getElem_cons_zero, List.setIfInBounds_toArray, List.set_cons_zero, List.set_cons_succ]
          refine wpAnyH_ready (rs := [5]) (by kernel_rfl) (by simp) ?_
          refine AllReadyH.cons rfl (fun K hK => ?_) AllReadyH.nil
          rw [if_pos (by rfl)]
          refine op_call 96 _ _ rfl (enters_of Try.func96 (by kernel_rfl) rfl) _ (spec_l14Find _ _ _ hsz) rfl ?_
          rintro e w4 ⟨rfl, rfl⟩
          refine ⟨_, rfl, ?_⟩
          refine hK.out _ _ ?_ (fun hS1 => ?_)
          · exact hS
          clear hK K
          replace hS := hS1
          clear hS1
          simp only [Act.put, List.getElem_toArray, List.getElem_cons_succ, List.getElem_cons_zero, List.setIfInBounds_toArray, List.set_cons_zero, List.set_cons_succ]
          refine wpAnyH_take (i := 6) (v := .bool false) rfl (by kernel_rfl) (by kernel_rfl) (by kernel_rfl) (fun _ _ _ h => h) (Or.inl ⟨by rfl, ?_⟩) hS ?_
          · intro w hSw
            go_simp
          simp only [Act.put, List.getElem_toArray, List.getElem_cons_succ, List.getElem_cons_zero, List.setIfInBounds_toArray, List.set_cons_zero, List.set_cons_succ]
          refine wpAnyH_take (i := 7) (v := .bool false) rfl (by kernel_rfl) (by kernel_rfl) (by kernel_rfl) (fun _ _ _ h => h) (Or.inl ⟨by rfl, ?_⟩) hS ?_
          · intro w hSw
            go_simp
          simp only [Act.put, List.getElem_toArray, List.getElem_cons_succ, List.getElem_cons_zero, List.setIfInBounds_toArray, List.set_cons_zero, List.set_cons_succ]
          refine wpAnyH_done (by kernel_rfl) ?_ _
          have HMID3 := HMID.grown hS
          clear HMID HLD HZ
          have HLD := HMID3.a
          simp only [List.length_cons] at HLD
          go_wp2_with fail
          refine wp_region_held_drew (S := fun _ => True) (by kernel_rfl) ?_ (fun hS => ?_)
          · exact trivial
          refine wpAnyH_take (i := 1) (v := .string picks) rfl (by kernel_rfl) (by kernel_rfl) (by kernel_rfl) (fun _ _ _ h => h) (Or.inl ⟨by rfl, ?_⟩) hS ?_
          · intro w hSw
            go_simp
          simp only [Act.put, List.getElem_toArray, List.getElem_cons_succ, List.getElem_cons_zero, List.setIfInBounds_toArray, List.set_cons_zero, List.set_cons_succ]
          refine wpAnyH_take (i := 2) (v := .int .i64 k) rfl (by kernel_rfl) (by kernel_rfl) (by kernel_rfl) (fun _ _ _ h => h) (Or.inl ⟨by rfl, ?_⟩) hS ?_
          · intro w hSw
            go_simp
          simp only [Act.put, List.getElem_toArray, List.getElem_cons_succ, List.getElem_cons_zero, List.setIfInBounds_toArray, List.set_cons_zero, List.set_cons_succ]
          refine wpAnyH_take (i := 3) (v := .int .u8 ((bt picks k).toNat : Int)) rfl (by kernel_rfl) (by kernel_rfl) (by kernel_rfl) (fun _ _ _ h => h) (Or.inl ⟨by rfl, ?_⟩) hS ?_
          · intro w hSw
            go_simp
          simp only [Act.put, List.getElem_toArray, List.getElem_cons_succ, List.getElem_cons_zero, List.setIfInBounds_toArray, List.set_cons_zero, List.set_cons_succ]
          refine wpAnyH_ready (rs := [0]) (by kernel_rfl) (by simp) ?_
          refine AllReadyH.cons rfl (fun K hK => ?_) AllReadyH.nil
          rw [if_pos (by rfl)]
          refine op_load_Blk _ _ rfl (w.heap.size + 1 + 1) rfl HLD.drew hu rfl at_i ?_
          refine hK.out _ _ trivial (fun _ => ?_)
          clear hK K
          simp only [Act.put, List.getElem_toArray, List.getElem_cons_succ, List.getElem_cons_zero, List.setIfInBounds_toArray, List.set_cons_zero, List.set_cons_succ]
          refine wpAnyH_ready (rs := [4]) (by kernel_rfl) (by simp) ?_
          refine AllReadyH.cons rfl (fun K hK => ?_) AllReadyH.nil
          rw [if_pos (by rfl)]
          refine op_call 97 _ _ rfl (enters_of Try.func97 (by kernel_rfl) rfl) _ (spec_l6Choose t1 us1 s' HMID3.hs _ d HCC.out hnx HHD.out g2 cap2 _ hfit.1 hfit.2 HMID3.t.drew (by omega) HMID3.hcap) rfl ?_
          rintro e w5 ⟨hb5, g3, cap3, rfl, hT5, hc5⟩
          refine ⟨_, rfl, ?_⟩
          refine hK.out _ _ trivial (fun _ => ?_)
          clear hK K
          simp only [Act.put, List.getElem_toArray, List.getElem_cons_succ, List.getElem_cons_zero, List.setIfInBounds_toArray, List.set_cons_zero, List.set_cons_succ]
          refine wpAnyH_ready (rs := [5]) (by kernel_rfl) (by simp) ?_
          refine AllReadyH.cons rfl (fun K hK => ?_) AllReadyH.nil
          rw [if_pos (by rfl)]
          have HB5 := HLD.drew.grown hb5
          have HF := fit_chose HMID3.fit s' d
          have hlt5 := chose_lt HMID3.hs HHD.out
          have HR : PlayAt w (w5.setRow (w.heap.size + 1 + 1) #[.slice (some ⟨g3, 0, none⟩) ((t1.chose s' d).2 ++ us1).length cap3, .int .i64 ((t1.chose s' d).1 : Nat)]) S0 picks (m - 1) (t1.chose s' d).1 ((t1.chose s' d).2 ++ us1) (k + 1) g3 cap3 :=
            ⟨HS0.out.symm, by omega, hlt5, HF.1, by rw [List.length_append]; omega, hc5, HB5.setRow _, (HMID3.z.drew.grown hb5).setRowOther _ _ (by omega), hT5.setRow HB5 _, below_setRow (below_step HMID3.b.drew hb5) (by omega) _⟩
          refine op_store_Blk _ _ _ rfl (w.heap.size + 1 + 1) rfl rfl HB5 at_i rfl (by simp [Value.oneCell']) ?_
          refine hK.out _ _ trivial (fun _ => ?_)
          clear hK K
          simp only [Act.put, List.getElem_toArray, List.getElem_cons_succ, List.getElem_cons_zero, List.setIfInBounds_toArray, List.set_cons_zero, List.set_cons_succ]
          refine wpAnyH_done (by kernel_rfl) ?_ _
          clear HMID3 HLD HB5 hT5 HHD HCC HS0 HF
          go_wp2_with fail
          rw [List.length_append] at HR
          go_roundw
          case rel => exact ⟨m - 1, _, _, k + 1, g3, cap3, by congr 1; omega, by go_num, HR⟩
          case measure => simp [intOf]; omega
    · have hS := play_end HMID.run hpk (picks.data.toList.drop k) k
      rw [HMID.play] at hS
      cases f with
      | pick => exact absurd rfl hpk
      | done =>
        have HD := HMID.done _ hS ⟨#[100, 111, 110, 101]⟩ rfl
        clear HMID hS hpk
        rw [show toldF .done = ⟨#[100, 111, 110, 101]⟩ from rfl]
        go_wp2_with (first
          | (refine wp_store_Blk rfl _ _ _ rfl (w.heap.size + 1 + 1) rfl rfl HST at_i rfl (by simp [Value.oneCell']) ?_)
          | (refine wp_store_Blk rfl _ _ _ rfl w.heap.size rfl rfl HZ at_i rfl (by simp [Value.oneCell']) ?_)
          | (refine wp_load_Blk rfl _ _ rfl (w.heap.size + 1 + 1) rfl HLD hu rfl at_i ?_))
        exact ret_Blk3 rfl w.heap.size rfl (HZ.setRow _) hu rfl at_i rfl HD
      | long =>
        have HD := HMID.done _ hS ⟨#[108, 111, 110, 103]⟩ rfl
        clear HMID hS hpk
        rw [show toldF .long = ⟨#[108, 111, 110, 103]⟩ from rfl]
        go_wp2_with (first
          | (refine wp_store_Blk rfl _ _ _ rfl (w.heap.size + 1 + 1) rfl rfl HST at_i rfl (by simp [Value.oneCell']) ?_)
          | (refine wp_store_Blk rfl _ _ _ rfl w.heap.size rfl rfl HZ at_i rfl (by simp [Value.oneCell']) ?_)
          | (refine wp_load_Blk rfl _ _ rfl (w.heap.size + 1 + 1) rfl HLD hu rfl at_i ?_))
        exact ret_Blk3 rfl w.heap.size rfl (HZ.setRow _) hu rfl at_i rfl HD
      | broke a =>
        cases a
        · have HD := HMID.done _ hS ⟨#[100, 101, 109, 111, 110]⟩ rfl
          clear HMID hS hpk
          rw [show toldF (.broke false) = ⟨#[100, 101, 109, 111, 110]⟩ from rfl]
          go_wp2_with (first
            | (refine wp_store_Blk rfl _ _ _ rfl (w.heap.size + 1 + 1) rfl rfl HST at_i rfl (by simp [Value.oneCell']) ?_)
            | (refine wp_store_Blk rfl _ _ _ rfl w.heap.size rfl rfl HZ at_i rfl (by simp [Value.oneCell']) ?_)
            | (refine wp_load_Blk rfl _ _ rfl (w.heap.size + 1 + 1) rfl HLD hu rfl at_i ?_))
          exact ret_Blk3 rfl w.heap.size rfl (HZ.setRow _) hu rfl at_i rfl HD
        · have HD := HMID.done _ hS ⟨#[97, 110, 103, 101, 108]⟩ rfl
          clear HMID hS hpk
          rw [show toldF (.broke true) = ⟨#[97, 110, 103, 101, 108]⟩ from rfl]
          go_wp2_with (first
            | (refine wp_store_Blk rfl _ _ _ rfl (w.heap.size + 1 + 1) rfl rfl HST at_i rfl (by simp [Value.oneCell']) ?_)
            | (refine wp_store_Blk rfl _ _ _ rfl w.heap.size rfl rfl HZ at_i rfl (by simp [Value.oneCell']) ?_)
            | (refine wp_load_Blk rfl _ _ rfl (w.heap.size + 1 + 1) rfl HLD hu rfl at_i ?_))
          exact ret_Blk3 rfl w.heap.size rfl (HZ.setRow _) hu rfl at_i rfl HD

end Go.Proofs.Ytaeibhpkcikaaaa

/- SpP8 -/
namespace Go.Proofs.Ytaeibhpkcikaaaa
set_option linter.unusedVariables false
set_option linter.unusedSimpArgs false
open Go.RowKit Go.Shelf
set_option maxRecDepth 100000
set_option maxHeartbeats 4000000

def stOk (s : Int) : Bool := decide (0 ≤ s) && decide (s < 4)
theorem isCt_txt {t : Ct} (h : t.WF) (hl : t.len ≤ 200) : isCt t.text = true := isCt_iff.2 ⟨t, h, rfl, by rw [t.text_size]; exact hl⟩
theorem stOk_nat {s : Int} (h : stOk s = true) : ∃ n : Nat, n < 4 ∧ s = n := by
  simp only [stOk, Bool.and_eq_true, decide_eq_true_eq] at h
  exact ⟨s.toNat, by omega, by omega⟩
theorem stOk_of {n : Nat} (h : n < 4) : stOk (n : Int) = true := by
  simp only [stOk, Bool.and_eq_true, decide_eq_true_eq]; omega
theorem spec_l1State (s : Int) (w : World) : Calls Try.prog 55 #[.int .i64 s] w fun e w' => e = .returned (.bool (stOk s)) ∧ w = w' := by
  have HS : Hid (stOk s = (decide (0 ≤ s) && decide (s < 4))) := rfl
  by_cases h1 : 0 ≤ s
  · by_cases h2 : s < 4
    · have e : Hid (stOk s = true) := by show _ = _; rw [HS.out]; simp [h1, h2]
      have h3 : s ≤ 3 := by omega
      go_enter Try.func55, Try.ntmps55
      go_wp2_with go_in
      go_ret
      rw [e.out]; exact ⟨rfl, rfl⟩
    · have e : Hid (stOk s = false) := by show _ = _; rw [HS.out]; simp [h1, h2]
      have h3 : ¬ s ≤ 3 := by omega
      go_enter Try.func55, Try.ntmps55
      go_wp2_with go_in
      go_ret
      rw [e.out]; exact ⟨rfl, rfl⟩
  · have e : Hid (stOk s = false) := by show _ = _; rw [HS.out]; simp [h1]
    go_enter Try.func55, Try.ntmps55
    go_wp2_with go_in
    go_ret
    rw [e.out]; exact ⟨rfl, rfl⟩
theorem spec_l6Ready (c : ByteArray) (s : Int) (w : World) (hc : c.size ≤ 4611686018427387904) : Calls Try.prog 46 #[.string c, .int .i64 s] w fun e w' => e = .returned (.bool (isCt c && stOk s)) ∧ w = w' := by
  cases h : isCt c
  all_goals
    have H := Lib.hid h
    clear h
    go_enter Try.func46, Try.ntmps46
    go_wp2_with fail
    refine (spec_ContractValid _ _ hc).mono ?_
    rintro e w' ⟨rfl, rfl⟩
    rw [H.out]
    go_wp2_with fail
  · go_ret
    exact ⟨rfl, rfl⟩
  · refine (spec_l1State _ _).mono ?_
    rintro e w' ⟨rfl, rfl⟩
    go_wp2_with fail
    go_ret
    exact ⟨by simp, rfl⟩
theorem spec_PlayContract_no (c picks : ByteArray) (s : Int) (w : World) (hc : c.size ≤ 4611686018427387904) (h : (isCt c && stOk s) = false) :
    Calls Try.prog 11 #[.string c, .int .i64 s, .string picks] w fun e w' => e = .returned (.tuple #[.int .i64 0, .int .i64 0, .string ⟨#[]⟩]) ∧ w = w' := by
  have H := Lib.hid h
  clear h
  go_enter Try.func11, Try.ntmps11
  go_wp2_with fail
  refine (spec_l6Ready _ _ _ hc).mono ?_
  rintro e w' ⟨rfl, rfl⟩
  rw [H.out]
  go_wp2_with fail
  go_ret3
  exact ⟨rfl, rfl⟩
theorem spec_PlayContract_yes (t : Ct) (ht : t.WF) (hlen : t.len ≤ 200) (s : Nat) (hs : s < 4) (picks : ByteArray) (hp : picks.size ≤ 4611686018427387904) (w : World) :
    Calls Try.prog 11 #[.string t.text, .int .i64 s, .string picks] w fun e w' => e = .returned (.tuple #[.int .i64 ((t.play s picks.data.toList).state : Nat), .int .i64 ((t.play s picks.data.toList).used : Nat), .string (toldS (t.play s picks.data.toList).how)]) ∧ Below w.heap.size w w' := by
  have H : Hid ((isCt t.text && stOk (s : Int)) = true) := by show _ = _; rw [isCt_txt ht hlen, stOk_of hs]; rfl
  go_enter Try.func11, Try.ntmps11
  go_wp2_with fail
  refine (spec_l6Ready _ _ _ (by rw [t.text_size]; omega)).mono ?_
  rintro e w' ⟨rfl, rfl⟩
  rw [H.out]
  go_wp2_with fail
  refine (spec_l6Play t ht hlen s hs picks hp _).mono ?_
  rintro e w1 ⟨hb1, g, cap, rfl, hT, hc⟩
  go_wp2_with (refine wp_store_BlkNew rfl _ _ _ rfl rfl rfl at_i rfl (by simp [Value.oneCell']) ?_)
  go_ret3
  exact ⟨rfl, below_new hb1 _⟩
theorem spec_ChoicesAt_no (c picks : ByteArray) (s : Int) (w : World) (hc : c.size ≤ 4611686018427387904) (h : (isCt c && stOk s) = false) :
    Calls Try.prog 14 #[.string c, .int .i64 s, .string picks] w fun e w' => e = .returned (.tuple #[.string ⟨#[]⟩, .string ⟨#[]⟩]) ∧ w = w' := by
  have H := Lib.hid h
  clear h
  go_enter Try.func14, Try.ntmps14
  go_wp2_with fail
  refine (spec_l6Ready _ _ _ hc).mono ?_
  rintro e w' ⟨rfl, rfl⟩
  rw [H.out]
  go_wp2_with fail
  go_ret2
  exact ⟨rfl, rfl⟩
/-- what ChoicesAt comes to -/
def askW (p : Spot) : ByteArray := match p.how, p.todo with
  | .asks, t :: _ => whoN t.who
  | _, _ => ⟨#[]⟩
def askO (p : Spot) : ByteArray := match p.how, p.todo with
  | .asks, t :: _ => optsB (t.opts p.state)
  | _, _ => ⟨#[]⟩
/-- a play that asks stands before a choice -/
theorem play_asks_at {cs : List UInt8} {n s : Nat} {ts : List Ct} {k : Nat} (hs : s < 4) (hf : FitC ts) (hl : ts.length + n ≤ 1000) :
    (playA cs n s ts k).state < 4 ∧ FitC (playA cs n s ts k).todo ∧ (playA cs n s ts k).todo.length ≤ 1000 ∧ (playA cs n s ts k).how ≠ .fin .pick ∧
    ((playA cs n s ts k).how = .asks → ∃ t us, (playA cs n s ts k).todo = t :: us ∧ t.next (playA cs n s ts k).state = .pick ∧ t.opts (playA cs n s ts k).state ≠ []) := by
  induction cs generalizing n s ts k with
  | nil =>
    obtain ⟨⟨m, us, f⟩, hR⟩ : ∃ r, r = run n s ts := ⟨_, rfl⟩
    have hfr := fit_run (s := s) hf hl
    rw [← hR] at hfr
    by_cases hp : f = .pick
    · subst hp
      rw [play_asks hR.symm]
      obtain ⟨t, u, h1, h2, h3, _⟩ := run_pick hR.symm
      exact ⟨hs, hfr.1, by have := hfr.2; simp only at this ⊢; omega, by simp, fun _ => ⟨t, u, h1, h2, h3⟩⟩
    · rw [play_end hR.symm hp]
      exact ⟨hs, hfr.1, by have := hfr.2; simp only at this ⊢; omega, by simpa using hp, by simp⟩
  | cons c cs ih =>
    obtain ⟨⟨m, us, f⟩, hR⟩ : ∃ r, r = run n s ts := ⟨_, rfl⟩
    have hfr := fit_run (s := s) hf hl
    rw [← hR] at hfr
    by_cases hp : f = .pick
    · subst hp
      obtain ⟨t, u, h1, h2, h3, h4, h5⟩ := run_pick hR.symm
      subst h1
      cases hi : isOpt (t.opts s) c
      · rw [play_bad hR.symm hi]
        exact ⟨hs, hfr.1, by have := hfr.2; simp only at this ⊢; omega, by simp, by simp⟩
      · obtain ⟨d, hd, hc⟩ := isOpt_iff.1 hi
        rw [play_on hR.symm hd hc]
        have hF := fit_chose hfr.1 s d
        exact ih (chose_lt hs hd) hF.1 (by rw [List.length_append]; have := hfr.2; simp only [List.length_cons] at this; omega)
    · rw [play_end hR.symm hp]
      exact ⟨hs, hfr.1, by have := hfr.2; simp only at this ⊢; omega, by simpa using hp, by simp⟩
theorem fit_one {t : Ct} (ht : t.WF) (hl : t.len ≤ 200) : FitC [t] := fun x hx => by simp at hx; subst hx; exact ⟨ht, hl⟩
theorem spec_ChoicesAt_yes (t : Ct) (ht : t.WF) (hlen : t.len ≤ 200) (s : Nat) (hs : s < 4) (picks : ByteArray) (hp : picks.size ≤ 4611686018427387904) (w : World) :
    Calls Try.prog 14 #[.string t.text, .int .i64 s, .string picks] w fun e w' => e = .returned (.tuple #[.string (askW (t.play s picks.data.toList)), .string (askO (t.play s picks.data.toList))]) ∧ Below w.heap.size w w' := by
  obtain ⟨fs, hu⟩ := at_u
  have H : Hid ((isCt t.text && stOk (s : Int)) = true) := by show _ = _; rw [isCt_txt ht hlen, stOk_of hs]; rfl
  have HA := play_asks_at (cs := picks.data.toList) (n := 200) (k := 0) hs (fit_one ht hlen) (by simp)
  have HL := Lib.hid (spec_l6Play t ht hlen s hs picks hp)
  have HE : ∃ p, t.play s picks.data.toList = p := ⟨_, rfl⟩
  obtain ⟨p, hpe⟩ := HE
  have HA2 : p.state < 4 ∧ FitC p.todo ∧ p.todo.length ≤ 1000 ∧ p.how ≠ .fin .pick ∧ (p.how = .asks → ∃ t us, p.todo = t :: us ∧ t.next p.state = .pick ∧ t.opts p.state ≠ []) := by rw [← hpe]; exact HA
  rw [hpe] at HL ⊢
  clear HA hpe
  go_enter Try.func14, Try.ntmps14
  go_wp2_with fail
  refine (spec_l6Ready _ _ _ (by rw [t.text_size]; omega)).mono ?_
  rintro e w' ⟨rfl, rfl⟩
  rw [H.out]
  go_wp2_with fail
  refine (HL.out _).mono ?_
  rintro e w1 ⟨hb1, g, cap, rfl, hT, hc⟩
  clear HL
  obtain ⟨n0, ps, td, us0, st⟩ := p
  simp only at *
  obtain ⟨hs4, hfit, hlen4, hnp, hask⟩ := HA2
  have HB := Blk.new w1 69 #[.slice (some ⟨g, 0, none⟩) td.length cap, .int .i64 ps]
  have hT1 := hT.grown (below_new (Below.refl _ _) (Obj.cells #[.slice (some ⟨g, 0, none⟩) td.length cap, .int .i64 ps] 69))
  have hb2 := below_new hb1 (Obj.cells #[.slice (some ⟨g, 0, none⟩) td.length cap, .int .i64 ps] 69)
  cases st with
  | asks =>
    obtain ⟨t1, us1, rfl, hnx, hne⟩ := hask rfl
    rw [show toldS .asks = ⟨#[97, 115, 107, 115]⟩ from rfl]
    have hf1 := hfit t1 (by simp)
    simp only [List.length_cons] at *
    have HWH : Hid (askW ⟨n0, ps, t1 :: us1, us0, .asks⟩ = whoN t1.who) := rfl
    have HOP : Hid (askO ⟨n0, ps, t1 :: us1, us0, .asks⟩ = optsB (t1.opts ps)) := rfl
    go_wp2_with (refine wp_store_BlkNew rfl _ _ _ rfl rfl rfl at_i rfl (by simp [Value.oneCell']) ?_)
    generalize w1.alloc (Obj.cells #[.slice (some ⟨g, 0, none⟩) (us1.length + 1) cap, .int .i64 ps] 69) = w2 at *
    refine wp_region_held_drew (S := fun W => Below w2.heap.size w2 W) (by kernel_rfl) ?_ (fun hS => ?_)
    · exact (Below.refl _ _).drew
    refine wpAnyH_take (i := 0) (v := .agg #[.slice (some ⟨g, 0, none⟩) (us1.length + 1) cap, .int .i64 ps]) rfl (by kernel_rfl) (by kernel_rfl) (by kernel_rfl) (fun _ _ _ h => h) (yields_Blk (by rfl) _ _ rfl w1.heap.size rfl (fun _ h => HB.grown h) hu rfl at_i) hS ?_
    simp only [Act.put, List.getElem_toArray, List.getElem_cons_succ, List.getElem_cons_zero, List.setIfInBounds_toArray, List.set_cons_zero, List.set_cons_succ]
    refine wpAnyH_take (i := 2) (v := .agg #[.slice (some ⟨g, 0, none⟩) (us1.length + 1) cap, .int .i64 ps]) rfl (by kernel_rfl) (by kernel_rfl) (by kernel_rfl) (fun _ _ _ h => h) (yields_Blk (by rfl) _ _ rfl w1.heap.size rfl (fun _ h => HB.grown h) hu rfl at_i) hS ?_
    simp only [Act.put, List.getElem_toArray, List.getElem_cons_succ, List.getElem_cons_zero, List.setIfInBounds_toArray, List.set_cons_zero, List.set_cons_succ]
    have HWHO : ∀ W, Below w2.heap.size w2 W → Calls Try.prog 49 #[.agg #[.slice (some ⟨g, 0, none⟩) (us1.length + 1) cap, .int .i64 ps]] W fun e w' => e = .returned (.string (whoN t1.who)) ∧ Below W.heap.size W w' := fun W h => spec_l6Who t1 us1 ps g cap W (hT1.grown h) (by omega)
    have HOPT : ∀ W, Below w2.heap.size w2 W → Calls Try.prog 50 #[.agg #[.slice (some ⟨g, 0, none⟩) (us1.length + 1) cap, .int .i64 ps]] W fun e w' => e = .returned (.string (optsB (t1.opts ps))) ∧ Below W.heap.size W w' := fun W h => spec_l6Options t1 hf1.1 us1 ps hs4 hnx g cap W (hT1.grown h) (by omega)
    refine wpAnyH_ready (rs := [1]) (by kernel_rfl) (by simp) ?_
    refine AllReadyH.cons rfl (fun K hK => ?_) AllReadyH.nil
    rw [if_pos (by rfl)]
    refine op_call 49 _ _ rfl (enters_of Try.func49 (by kernel_rfl) rfl) _ (HWHO _ hS) rfl ?_
    rintro e w3 ⟨rfl, hb3⟩
    refine ⟨_, rfl, ?_⟩
    refine hK.out _ _ ?_ (fun hS1 => ?_)
    · exact below_step hS hb3
    clear hK K
    replace hS := hS1
    clear hS1
    simp only [Act.put, List.getElem_toArray, List.getElem_cons_succ, List.getElem_cons_zero, List.setIfInBounds_toArray, List.set_cons_zero, List.set_cons_succ]
    refine wpAnyH_ready (rs := [3]) (by kernel_rfl) (by simp) ?_
    refine AllReadyH.cons rfl (fun K hK => ?_) AllReadyH.nil
    rw [if_pos (by rfl)]
    refine op_call 50 _ _ rfl (enters_of Try.func50 (by kernel_rfl) rfl) _ (HOPT _ hS) rfl ?_
    rintro e w4 ⟨rfl, hb4⟩
    refine ⟨_, rfl, ?_⟩
    refine hK.out _ _ ?_ (fun hS1 => ?_)
    · exact below_step hS hb4
    clear hK K
    replace hS := hS1
    clear hS1
    simp only [Act.put, List.getElem_toArray, List.getElem_cons_succ, List.getElem_cons_zero, List.setIfInBounds_toArray, List.set_cons_zero, List.set_cons_succ]
    refine wpAnyH_take (i := 4) (v := .string (whoN t1.who)) rfl (by kernel_rfl) (by kernel_rfl) (by kernel_rfl) (fun _ _ _ h => h) (Or.inl ⟨by rfl, ?_⟩) hS ?_
    · intro w hSw
      go_simp
    simp only [Act.put, List.getElem_toArray, List.getElem_cons_succ, List.getElem_cons_zero, List.setIfInBounds_toArray, List.set_cons_zero, List.set_cons_succ]
    refine wpAnyH_take (i := 5) (v := .string (optsB (t1.opts ps))) rfl (by kernel_rfl) (by kernel_rfl) (by kernel_rfl) (fun _ _ _ h => h) (Or.inl ⟨by rfl, ?_⟩) hS ?_
    · intro w hSw
      go_simp
    simp only [Act.put, List.getElem_toArray, List.getElem_cons_succ, List.getElem_cons_zero, List.setIfInBounds_toArray, List.set_cons_zero, List.set_cons_succ]
    refine wpAnyH_done (by kernel_rfl) ?_ _
    go_wp2_with fail
    go_ret2
    rw [HWH.out, HOP.out]
    exact ⟨rfl, below_step hb2 hS⟩
  | bad =>
    clear hask
    have HWH : Hid (askW ⟨n0, ps, td, us0, .bad⟩ = ⟨#[]⟩) := rfl
    have HOP : Hid (askO ⟨n0, ps, td, us0, .bad⟩ = ⟨#[]⟩) := rfl
    rw [show toldS .bad = ⟨#[98, 97, 100]⟩ from rfl]
    go_wp2_with (refine wp_store_BlkNew rfl _ _ _ rfl rfl rfl at_i rfl (by simp [Value.oneCell']) ?_)
    go_ret2
    rw [HWH.out, HOP.out]
    exact ⟨rfl, hb2⟩
  | fin f =>
    clear hask
    cases f with
    | pick => exact absurd rfl hnp
    | done =>
      have HWH : Hid (askW ⟨n0, ps, td, us0, (.fin .done)⟩ = ⟨#[]⟩) := rfl
      have HOP : Hid (askO ⟨n0, ps, td, us0, (.fin .done)⟩ = ⟨#[]⟩) := rfl
      rw [show toldS (.fin .done) = ⟨#[100, 111, 110, 101]⟩ from rfl]
      go_wp2_with (refine wp_store_BlkNew rfl _ _ _ rfl rfl rfl at_i rfl (by simp [Value.oneCell']) ?_)
      go_ret2
      rw [HWH.out, HOP.out]
      exact ⟨rfl, hb2⟩
    | long =>
      have HWH : Hid (askW ⟨n0, ps, td, us0, (.fin .long)⟩ = ⟨#[]⟩) := rfl
      have HOP : Hid (askO ⟨n0, ps, td, us0, (.fin .long)⟩ = ⟨#[]⟩) := rfl
      rw [show toldS (.fin .long) = ⟨#[108, 111, 110, 103]⟩ from rfl]
      go_wp2_with (refine wp_store_BlkNew rfl _ _ _ rfl rfl rfl at_i rfl (by simp [Value.oneCell']) ?_)
      go_ret2
      rw [HWH.out, HOP.out]
      exact ⟨rfl, hb2⟩
    | broke a =>
      cases a
      · skip
        have HWH : Hid (askW ⟨n0, ps, td, us0, (.fin (.broke false))⟩ = ⟨#[]⟩) := rfl
        have HOP : Hid (askO ⟨n0, ps, td, us0, (.fin (.broke false))⟩ = ⟨#[]⟩) := rfl
        rw [show toldS (.fin (.broke false)) = ⟨#[100, 101, 109, 111, 110]⟩ from rfl]
        go_wp2_with (refine wp_store_BlkNew rfl _ _ _ rfl rfl rfl at_i rfl (by simp [Value.oneCell']) ?_)
        go_ret2
        rw [HWH.out, HOP.out]
        exact ⟨rfl, hb2⟩
      · skip
        have HWH : Hid (askW ⟨n0, ps, td, us0, (.fin (.broke true))⟩ = ⟨#[]⟩) := rfl
        have HOP : Hid (askO ⟨n0, ps, td, us0, (.fin (.broke true))⟩ = ⟨#[]⟩) := rfl
        rw [show toldS (.fin (.broke true)) = ⟨#[97, 110, 103, 101, 108]⟩ from rfl]
        go_wp2_with (refine wp_store_BlkNew rfl _ _ _ rfl rfl rfl at_i rfl (by simp [Value.oneCell']) ?_)
        go_ret2
        rw [HWH.out, HOP.out]
        exact ⟨rfl, hb2⟩
end Go.Proofs.Ytaeibhpkcikaaaa
