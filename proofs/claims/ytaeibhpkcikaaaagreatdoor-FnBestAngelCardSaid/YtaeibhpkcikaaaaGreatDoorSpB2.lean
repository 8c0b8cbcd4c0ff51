/- Plays with the best choices: the reference's BestPlay. -/
import Derived.Test.YtaeibhpkcikaaaaGreatDoorSpB
namespace Go.Proofs.YtaeibhpkcikaaaaGreatDoor
set_option linter.unusedVariables false
set_option linter.unusedSimpArgs false
open Go.RowKit Go.Shelf
set_option maxRecDepth 100000
set_option maxHeartbeats 20000000

def szOf : Value → Nat
  | .string s => s.size
  | _ => 0
theorem len_totB (ts : List Ct) : ts.length ≤ tot ts := by
  induction ts with
  | nil => simp [tot]
  | cons t ts ih =>
    have : 1 ≤ t.num := by cases t <;> simp [Ct.num] <;> omega
    simp only [List.length_cons, tot]; omega
abbrev BestR := List UInt8 × Nat × Fin
structure BPAt (w wr : World) (A : Nat) (R0 : BestR) (p : Int) (ang : Bool) (others : ByteArray) (f s : Nat) (ts : List Ct) (u : Nat) (P : List UInt8) (g cap : Nat) : Prop where
  val : best p ang f s ts (others.data.toList.drop u) P = R0
  hf : tot ts < f
  tl : tot ts + P.length ≤ 200
  flat : Flat ts
  fit : FitC ts
  hs : s < 4
  hu : u ≤ others.size
  hcap : ts.length ≤ cap
  a : Blk wr A 38 #[.slice (some ⟨g, 0, none⟩) ts.length cap, .int .i64 s]
  t : Todo wr g ts
  b : Below w.heap.size w wr
theorem BPAt.len {w wr : World} {A : Nat} {R0 : BestR} {p : Int} {ang : Bool} {others : ByteArray} {f s : Nat} {ts : List Ct} {u : Nat} {P : List UInt8} {g cap : Nat} (h : BPAt w wr A R0 p ang others f s ts u P g cap) : ts.length ≤ 200 := by
  have := len_totB ts; have := h.tl; omega
def BestEnd (R : BestR) (w : World) (e : Ending) (w' : World) : Prop := e = .returned (.tuple #[.string ⟨R.1.toArray⟩, .int .i64 (R.2.1 : Nat), .string (toldF R.2.2)]) ∧ Below w.heap.size w w'
theorem arr_add (P : List UInt8) (b : UInt8) : (⟨P.toArray⟩ : ByteArray) ++ ⟨#[b]⟩ = ⟨(P ++ [b]).toArray⟩ := by
  apply ByteArray.ext; apply Array.ext'; simp
theorem spec_BestPlay_start (t : Ct) (ht : t.WF) (hlen : t.len ≤ 200) (hfl : t.flat = true) (s : Nat) (hs : s < 4) (p : Int) (ang : Bool) (others : ByteArray) (R0 : BestR) (hR : best p ang (t.num + 1) s [t] others.data.toList [] = R0) (w w1 : World) (hb1 : Below w.heap.size w w1) :
    BPAt w ((w1.alloc (Obj.cells #[.string t.text] 9)).alloc (Obj.cells #[.slice (some ⟨w1.heap.size, 0, none⟩) 1 1, .int .i64 s] 38)) (w1.heap.size + 1) R0 p ang others (t.num + 1) s [t] 0 [] w1.heap.size 1 := by
  have hnl := t.num_le
  refine ⟨hR, by simp [tot], by simp [tot]; omega, (fun x hx => by simp at hx; subst hx; exact hfl), (fun x hx => by simp at hx; subst hx; exact ⟨ht, hlen⟩), hs, Nat.zero_le _, by simp, Blk.newAt (w1.alloc _) _ _ _ (by simp), ⟨fun j x hj => ?_⟩, below_new (below_new hb1 _) _⟩
  match j, hj with
  | 0, hj =>
    simp at hj; subst hj
    refine cell_grown ?_ (below_new (Below.refl _ _) _)
    rw [cell_of_row _ _ 0 _ _ _ (heap_alloc_new w1 _)]; rfl
  | j + 1, hj => simp at hj
/-- behind a run -/
structure BPMid (w wr : World) (A : Nat) (R0 : BestR) (p : Int) (ang : Bool) (others : ByteArray) (f s : Nat) (ts : List Ct) (u : Nat) (P : List UInt8) (us : List Ct) (e : Fin) (g cap : Nat) : Prop where
  val : best p ang (f + 1) s ts (others.data.toList.drop u) P = R0
  run : (Go.Proofs.YtaeibhpkcikaaaaGreatDoor.run 200 s ts).2 = (us, e)
  hf : tot us ≤ f
  tl : tot us + P.length ≤ 200
  flat : Flat us
  fit : FitC us
  hs : s < 4
  hu : u ≤ others.size
  hcap : us.length ≤ cap
  a : Blk wr A 38 #[.slice (some ⟨g, 0, none⟩) us.length cap, .int .i64 s]
  t : Todo wr g us
  b : Below w.heap.size w wr
theorem BPMid.grown {w wr wr' : World} {A : Nat} {R0 : BestR} {p : Int} {ang : Bool} {others : ByteArray} {f s : Nat} {ts : List Ct} {u : Nat} {P : List UInt8} {us : List Ct} {e : Fin} {g cap : Nat} (h : BPMid w wr A R0 p ang others f s ts u P us e g cap) (hb : Below wr.heap.size wr wr') : BPMid w wr' A R0 p ang others f s ts u P us e g cap :=
  ⟨h.val, h.run, h.hf, h.tl, h.flat, h.fit, h.hs, h.hu, h.hcap, h.a.grown hb, h.t.grown hb, below_step h.b hb⟩
theorem BPMid.next {w wr : World} {A : Nat} {R0 : BestR} {p : Int} {ang : Bool} {others : ByteArray} {f s : Nat} {ts : List Ct} {u : Nat} {P : List UInt8} {t1 : Ct} {us1 : List Ct} {g cap : Nat} (h : BPMid w wr A R0 p ang others f s ts u P (t1 :: us1) .pick g cap) {K u2 : Nat} (hz : chz p ang t1 us1 s (others.data.toList.drop u) = (K, others.data.toList.drop u2)) (hK : K ∈ t1.opts s) (hu2 : u2 ≤ others.size) (hA : w.heap.size ≤ A) {w7 : World} (hb : Below wr.heap.size wr w7) {g3 cap3 : Nat}
    (hT : Todo w7 g3 ((t1.chose s K).2 ++ us1)) (hc : ((t1.chose s K).2 ++ us1).length ≤ cap3) :
    BPAt w (w7.setRow A #[.slice (some ⟨g3, 0, none⟩) ((t1.chose s K).2 ++ us1).length cap3, .int .i64 ((t1.chose s K).1 : Nat)]) A R0 p ang others f (t1.chose s K).1 ((t1.chose s K).2 ++ us1) u2 (P ++ [decB K]) g3 cap3 := by
  have hft := h.fit t1 (by simp)
  have hlt := h.flat t1 (by simp)
  have hcf := chose_flat hft.1 hlt s K
  have hBA := h.a.grown hb
  have h1 := h.hf
  have h2 := h.tl
  simp only [tot] at h1 h2
  refine ⟨?_, by rw [tot_app]; omega, by rw [tot_app, List.length_append]; simp only [List.length_cons, List.length_nil]; omega, hcf.1.app h.flat.tail, (fit_chose h.fit s K).1, chose_lt h.hs hK, hu2, hc, hBA.setRow _, hT.setRow hBA _, below_setRow (below_step h.b hb) hA _⟩
  have hv := h.val
  rw [best_pick h.run, hz] at hv
  exact hv
theorem BPAt.mid {w wr : World} {A : Nat} {R0 : BestR} {p : Int} {ang : Bool} {others : ByteArray} {f s : Nat} {ts : List Ct} {u : Nat} {P : List UInt8} {g cap : Nat} (h : BPAt w wr A R0 p ang others f s ts u P g cap) (hA : w.heap.size ≤ A) {w2 : World} (hb : Below wr.heap.size wr w2) {us : List Ct} {e : Fin} {m g2 cap2 : Nat} (hr : Go.Proofs.YtaeibhpkcikaaaaGreatDoor.run 200 s ts = (m, us, e)) (hT : Todo w2 g2 us) (hc : us.length ≤ cap2) :
    ∃ f', f = f' + 1 ∧ e ≠ .long ∧ BPMid w (w2.setRow A #[.slice (some ⟨g2, 0, none⟩) us.length cap2, .int .i64 s]) A R0 p ang others f' s ts u P us e g2 cap2 := by
  obtain ⟨f', rfl⟩ : ∃ f', f = f' + 1 := ⟨f - 1, by have := h.hf; omega⟩
  have htl : tot ts ≤ 200 := by have := h.tl; omega
  have hfl := run_flat (s := s) (n := 200) h.fit h.flat htl
  have hfr := fit_run0 (n := 200) (s := s) h.fit
  rw [hr] at hfl hfr
  have hm := run_le0 200 s ts
  rw [hr] at hm
  simp only at hm
  have h2 := hfl.2.1
  have hBA := h.a.grown hb
  refine ⟨f', rfl, hfl.2.2.1, ⟨h.val, by rw [hr], ?_, ?_, hfl.1, hfr, h.hs, h.hu, hc, hBA.setRow _, hT.setRow hBA _, below_setRow (below_step h.b hb) hA _⟩⟩
  · have := h.hf; simp only at h2; omega
  · have := h.tl; simp only at h2; omega
theorem spec_BestPlay_false (t : Ct) (ht : t.WF) (hlen : t.len ≤ 200) (hfl : t.flat = true) (s : Nat) (hs : s < 4) (p : Int) (hp : C p) (others : ByteArray) (ho : others.size ≤ 4611686018427387904) (hd : digsOk others = true) (w : World) :
    Calls Tryz.prog 5 #[.string t.text, .int .i64 s, .int .i64 p, .string (whoN false), .string others] w (BestEnd (best p false (t.num + 1) s [t] others.data.toList []) w) := by
  obtain ⟨fs, hu⟩ := at_u
  have hRd : Hid ((isCt t.text && stOk (s : Int)) = true) := by show _ = _; rw [isCt_txt ht hlen, stOk_of hs]; rfl
  have hLp : Hid ((!t.flat) = false) := by show _ = _; rw [hfl]; rfl
  have hCv : Hid (isC p = true) := isC_mk hp
  have hDg := Lib.hid hd
  have hsz : t.text.size ≤ 4611686018427387904 := by rw [t.text_size]; omega
  have HLps := Lib.hid (spec_HasLoops t ht hlen)
  have HDs : Hid (∀ k, k < others.size → digB (bt others k) = true) := fun k hk => digsOk_at others k hk hd
  clear hd
  obtain ⟨R0, hR0⟩ : ∃ R, best p false (t.num + 1) s [t] others.data.toList [] = R := ⟨_, rfl⟩
  rw [hR0]
  have HR0 := Lib.hid hR0
  clear hR0
  rw [show whoN false = ⟨#[100, 101, 109, 111, 110]⟩ from rfl]
  go_enter Tryz.func5, Tryz.ntmps5
  go_wp2_with fail
  refine (spec_l6Ready _ _ _ hsz).mono ?_
  rintro e w' ⟨rfl, rfl⟩
  rw [hRd.out]
  go_wp2_with fail
  refine (HLps.out _).mono ?_
  rintro e w1 ⟨rfl, hb1⟩
  rw [hLp.out]
  go_wp2_with fail
  refine (spec_ConditionValid _ _).mono ?_
  rintro e w' ⟨rfl, rfl⟩
  rw [hCv.out]
  go_wp2_with fail
  refine (spec_l6Digits _ ho _).mono ?_
  rintro e w' ⟨rfl, rfl⟩
  rw [hDg.out]
  have H0 := spec_BestPlay_start t ht hlen hfl s hs p false others R0 HR0.out w w1 hb1
  have hA : w.heap.size ≤ w1.heap.size + 1 := by have := hb1.size; omega
  go_wp2_with fail
  generalize w1.heap.size + 1 = A at *
  generalize ((w1.alloc (Obj.cells #[.string t.text] 9)).alloc (Obj.cells #[.slice (some ⟨w1.heap.size, 0, none⟩) 1 1, .int .i64 s] 38)) = W0 at *
  clear hb1 HR0 hRd hLp hDg HLps
  go_loopw [14, 15] (fun o u wr => ∃ (f s' : Nat) (ts : List Ct) (u' : Nat) (P : List UInt8) (g cap : Nat), o = .string ⟨P.toArray⟩ ∧ u = .int .i64 u' ∧ BPAt w wr A R0 p false others f s' ts u' P g cap) (fun o _ _ => 201 - szOf o)
  case atStart => exact ⟨_, s, [t], 0, [], _, _, rfl, rfl, H0⟩
  case round =>
    clear H0 hs
    obtain ⟨f, s', ts, u', P, g, cap, rfl, rfl, H⟩ := hrel
    have HLD := H.a
    have hlen2 := H.len
    go_wp2_with (refine wp_load_Blk rfl _ _ rfl A rfl HLD hu rfl at_i ?_)
    refine (spec_l6Run 200 s' H.hs ts H.fit (by omega) g cap H.hcap wr H.t).mono ?_
    rintro e w2 ⟨hb2, g2, cap2, he, hT2, hc2⟩
    obtain ⟨⟨m, us, fe⟩, hR⟩ : ∃ r, r = run 200 s' ts := ⟨_, rfl⟩
    rw [← hR] at hT2 hc2 he
    have he2 : e = .returned (.tuple #[.agg #[.slice (some ⟨g2, 0, none⟩) us.length cap2, .int .i64 s'], .string (toldF fe), .int .i64 (m : Nat)]) := he
    subst he2
    clear he
    obtain ⟨f', rfl, hnl2, HM⟩ := H.mid hA hb2 hR.symm hT2 hc2
    have HST := H.a.grown hb2
    clear hR H HLD hT2 hc2 hb2
    have HMa := HM.a
    obtain ⟨c0, c1⟩ := HMa.cell2
    by_cases hpk : fe = .pick
    · subst hpk
      rw [show toldF .pick = ⟨#[99, 104, 111, 105, 99, 101]⟩ from rfl]
      have hfull : run 200 s' ts = ((run 200 s' ts).1, us, .pick) := by rw [← HM.run]
      obtain ⟨t1, us1, rfl, hnx, hne, -, -⟩ := run_pick hfull
      clear hfull
      have hft := HM.fit t1 (by simp)
      have hcap2 := HM.hcap
      have hul : us1.length ≤ 900 := by have h1 := len_totB (t1 :: us1); have h2 := HM.tl; simp only [List.length_cons] at h1; omega
      simp only [List.length_cons] at HMa HST hcap2 ⊢
      go_wp2_with (first
        | (refine wp_store_Blk rfl _ _ _ rfl A rfl rfl HST at_i rfl (by simp [Value.oneCell']) ?_)
        | (refine wp_load_Blk rfl _ _ rfl A rfl HMa hu rfl at_i ?_))
      refine (spec_l6Options t1 hft.1 us1 s' HM.hs hnx g2 cap2 _ HM.t (by omega)).mono ?_
      rintro e w4 ⟨rfl, hb4⟩
      have HM4 := HM.grown hb4
      have HL4 := HM4.a
      simp only [List.length_cons] at HL4
      clear HM HMa HST c0 c1 hb4
      have hsz4 := optsB_size (t1.opts s')
      have hol := opts_le t1 s'
      have hl0 : 0 < (t1.opts s').length := List.length_pos_iff.2 hne
      have HOL : Hid (∀ j x, (t1.opts s')[j]? = some x → bt (optsB (t1.opts s')) j = decB x) := fun j x h => optsB_atB _ j x h
      have hhd : (t1.opts s')[0]? = some ((t1.opts s').headD 0) := by
        cases hq : t1.opts s' with
        | nil => exact absurd hq hne
        | cons a l => rfl
      obtain ⟨K0, hK0⟩ : ∃ K, (t1.opts s').headD 0 = K := ⟨_, rfl⟩
      rw [hK0] at hhd
      have HK0 := Lib.hid hK0
      clear hK0
      have hbt0 := HOL.out 0 _ hhd
      generalize hTX : optsB (t1.opts s') = TX at *
      clear hTX hhd
      cases hwho : t1.who
      · go_wp2_with (refine wp_load_Blk rfl _ _ rfl A rfl HL4 hu rfl at_i ?_)
        refine (spec_l6Who t1 us1 s' g2 cap2 _ HM4.t (by omega)).mono ?_
        rintro e w5 ⟨rfl, hb5⟩
        rw [hwho, show whoN false = ⟨#[100, 101, 109, 111, 110]⟩ from rfl]
        have HM5 := HM4.grown hb5
        have HL5 := HM5.a
        simp only [List.length_cons] at HL5
        clear HM4 HL4 hb5
        go_wp2_with (refine wp_load_Blk rfl _ _ rfl A rfl HL5 hu rfl at_i ?_)
        refine (spec_l6Best t1 us1 HM5.fit s' HM5.hs hnx hne p hp false hul g2 cap2 _ HM5.t hcap2).mono ?_
        rintro e w6 ⟨rfl, hb6⟩
        have HM6 := HM5.grown hb6
        have HL6 := HM6.a
        simp only [List.length_cons] at HL6
        have hK := pickOf_mem p false t1 us1 hne
        have hz : chz p false t1 us1 s' (others.data.toList.drop u') = (pickOf p false t1 us1 s', others.data.toList.drop u') := by unfold chz; rw [hwho]; rfl
        have hu9 := HM6.hu
        clear HM5 HL5 hb6
        obtain ⟨K, hKd⟩ : ∃ K, pickOf p false t1 us1 s' = K := ⟨_, rfl⟩
        rw [hKd] at hK hz ⊢
        clear hKd
        have hcv := conv_byte ((decB K).toNat : Int) (decB K) rfl
        have HLt := HL6
        have hpl : P.length ≤ 200 := by have := HM6.tl; omega
        have hpsz : (⟨P.toArray⟩ : ByteArray).size ≤ 200 := by show P.toArray.size ≤ 200; rw [List.size_toArray]; exact hpl
        have hpsz2 : (⟨P.toArray⟩ : ByteArray).size = P.length := by show P.toArray.size = _; rw [List.size_toArray]
        go_wp2_with (refine wp_load_Blk rfl _ _ rfl A rfl (HLt.old _) hu rfl at_i ?_)
        refine (spec_l6Choose t1 us1 s' HM6.hs _ K (decB_toNat (opts_lt hK)) hnx hK g2 cap2 _ hft.1 hft.2 (HM6.t.grown (below_new (Below.refl _ _) _)) (by omega) hcap2).mono ?_
        rintro e w7 ⟨hb7, g3, cap3, rfl, hT7, hc7⟩
        have HB7 := (HLt.old _).grown hb7
        have HR := HM6.next hz hK (by omega) hA (below_step (below_new (Below.refl _ _) _) hb7) hT7 hc7
        have HPz : Hid ((⟨P.toArray⟩ : ByteArray) ++ ⟨#[decB K]⟩ = ⟨(P ++ [decB K]).toArray⟩) := arr_add P _
        simp only [List.length_append] at HR
        clear hb7 hT7 hc7 hcv
        go_wp2_with (refine wp_store_Blk rfl _ _ _ rfl A rfl rfl HB7 at_i rfl (by simp [Value.oneCell']) ?_)
        try simp only [Act.put]
        try go_wp2_with fail
        rw [HPz.out]
        refine ⟨⟨_, _, _, u', P ++ [decB K], g3, cap3, rfl, by go_num, HR⟩, ?_⟩
        simp only [szOf]
        show 201 - (P ++ [decB K]).toArray.size < 201 - P.toArray.size
        have hp2 : P.toArray.size ≤ 200 := hpsz
        rw [List.size_toArray] at hp2 ⊢
        rw [List.size_toArray, List.length_append]
        simp only [List.length_cons, List.length_nil]
        omega
      · go_wp2_with (refine wp_load_Blk rfl _ _ rfl A rfl HL4 hu rfl at_i ?_)
        refine (spec_l6Who t1 us1 s' g2 cap2 _ HM4.t (by omega)).mono ?_
        rintro e w5 ⟨rfl, hb5⟩
        rw [hwho, show whoN true = ⟨#[97, 110, 103, 101, 108]⟩ from rfl]
        have HM5 := HM4.grown hb5
        have HL5 := HM5.a
        simp only [List.length_cons] at HL5
        clear HM4 HL4 hb5
        by_cases hlt : u' < others.size
        · have hlti : (u' : Int) < (others.size : Int) := by omega
          have hdg := HDs.out u' hlt
          have hdg2 : 48 ≤ (bt others u').toNat ∧ (bt others u').toNat ≤ 57 := by simpa [digB] using hdg
          obtain ⟨j, hj, hje⟩ : ∃ j : Nat, j < (t1.opts s').length ∧ ((((bt others u').toNat : Int) - 48) % ((t1.opts s').length : Nat)) = j := ⟨((bt others u').toNat - 48) % (t1.opts s').length, Nat.mod_lt _ hl0, by push_cast [Int.ofNat_sub hdg2.1]; rfl⟩
          have hjn : ((bt others u').toNat - 48) % (t1.opts s').length = j := by
            have h3 : (((bt others u').toNat - 48 : Nat) : Int) = ((bt others u').toNat : Int) - 48 := by omega
            rw [← h3] at hje
            exact_mod_cast hje
          have hgx : (t1.opts s')[j]? = some ((t1.opts s').getD j 0) := by rw [List.getD_eq_getElem?_getD, List.getElem?_eq_getElem hj]; rfl
          have hbtj := HOL.out j _ hgx
          have hK : (t1.opts s').getD j 0 ∈ t1.opts s' := List.mem_of_getElem? hgx
          have hz : chz p false t1 us1 s' (others.data.toList.drop u') = ((t1.opts s').getD j 0, others.data.toList.drop (u' + 1)) := by
            unfold chz
            rw [hwho, if_neg (by decide), drop_bt others u' hlt]
            show ((t1.opts s').getD (((bt others u').toNat - 48) % (t1.opts s').length) 0, _) = _
            rw [hjn]
          have e48a : ¬ ((bt others u').toNat : Int) - 48 < 0 := by omega
          have hu9 := HM5.hu
          clear hdg hjn hgx
          obtain ⟨K, hKd⟩ : ∃ K, (t1.opts s').getD j 0 = K := ⟨_, rfl⟩
          rw [hKd] at hK hz hbtj
          clear hKd
          have hcv := conv_byte ((decB K).toNat : Int) (decB K) rfl
          have HLt := HL5
          have hpl : P.length ≤ 200 := by have := HM5.tl; omega
          have hpsz : (⟨P.toArray⟩ : ByteArray).size ≤ 200 := by show P.toArray.size ≤ 200; rw [List.size_toArray]; exact hpl
          have hpsz2 : (⟨P.toArray⟩ : ByteArray).size = P.length := by show P.toArray.size = _; rw [List.size_toArray]
          go_wp2_with (refine wp_load_Blk rfl _ _ rfl A rfl (HLt.old _) hu rfl at_i ?_)
          refine (spec_l6Choose t1 us1 s' HM5.hs _ K (decB_toNat (opts_lt hK)) hnx hK g2 cap2 _ hft.1 hft.2 (HM5.t.grown (below_new (Below.refl _ _) _)) (by omega) hcap2).mono ?_
          rintro e w7 ⟨hb7, g3, cap3, rfl, hT7, hc7⟩
          have HB7 := (HLt.old _).grown hb7
          have HR := HM5.next hz hK (by omega) hA (below_step (below_new (Below.refl _ _) _) hb7) hT7 hc7
          have HPz : Hid ((⟨P.toArray⟩ : ByteArray) ++ ⟨#[decB K]⟩ = ⟨(P ++ [decB K]).toArray⟩) := arr_add P _
          simp only [List.length_append] at HR
          clear hb7 hT7 hc7 hcv
          go_wp2_with (refine wp_store_Blk rfl _ _ _ rfl A rfl rfl HB7 at_i rfl (by simp [Value.oneCell']) ?_)
          try simp only [Act.put]
          try go_wp2_with fail
          rw [HPz.out]
          refine ⟨⟨_, _, _, u' + 1, P ++ [decB K], g3, cap3, rfl, by go_num, HR⟩, ?_⟩
          simp only [szOf]
          show 201 - (P ++ [decB K]).toArray.size < 201 - P.toArray.size
          have hp2 : P.toArray.size ≤ 200 := hpsz
          rw [List.size_toArray] at hp2 ⊢
          rw [List.size_toArray, List.length_append]
          simp only [List.length_cons, List.length_nil]
          omega
        · have hlti : ¬ (u' : Int) < (others.size : Int) := by omega
          have hK : (t1.opts s').headD 0 ∈ t1.opts s' := headD_mem hne
          have hz : chz p false t1 us1 s' (others.data.toList.drop u') = ((t1.opts s').headD 0, others.data.toList.drop u') := by
            have hnil : others.data.toList.drop u' = [] := by rw [List.drop_eq_nil_iff, ← Lib.size_eq]; omega
            unfold chz
            rw [hwho, if_neg (by decide), hnil]; rfl
          have hu9 := HM5.hu
          rw [HK0.out] at hK hz
          have hcv := conv_byte ((decB K0).toNat : Int) (decB K0) rfl
          have HLt := HL5
          have hpl : P.length ≤ 200 := by have := HM5.tl; omega
          have hpsz : (⟨P.toArray⟩ : ByteArray).size ≤ 200 := by show P.toArray.size ≤ 200; rw [List.size_toArray]; exact hpl
          have hpsz2 : (⟨P.toArray⟩ : ByteArray).size = P.length := by show P.toArray.size = _; rw [List.size_toArray]
          go_wp2_with (refine wp_load_Blk rfl _ _ rfl A rfl (HLt.old _) hu rfl at_i ?_)
          refine (spec_l6Choose t1 us1 s' HM5.hs _ K0 (decB_toNat (opts_lt hK)) hnx hK g2 cap2 _ hft.1 hft.2 (HM5.t.grown (below_new (Below.refl _ _) _)) (by omega) hcap2).mono ?_
          rintro e w7 ⟨hb7, g3, cap3, rfl, hT7, hc7⟩
          have HB7 := (HLt.old _).grown hb7
          have HR := HM5.next hz hK (by omega) hA (below_step (below_new (Below.refl _ _) _) hb7) hT7 hc7
          have HPz : Hid ((⟨P.toArray⟩ : ByteArray) ++ ⟨#[decB K0]⟩ = ⟨(P ++ [decB K0]).toArray⟩) := arr_add P _
          simp only [List.length_append] at HR
          clear hb7 hT7 hc7 hcv
          go_wp2_with (refine wp_store_Blk rfl _ _ _ rfl A rfl rfl HB7 at_i rfl (by simp [Value.oneCell']) ?_)
          try simp only [Act.put]
          try go_wp2_with fail
          rw [HPz.out]
          refine ⟨⟨_, _, _, u', P ++ [decB K0], g3, cap3, rfl, by go_num, HR⟩, ?_⟩
          simp only [szOf]
          show 201 - (P ++ [decB K0]).toArray.size < 201 - P.toArray.size
          have hp2 : P.toArray.size ≤ 200 := hpsz
          rw [List.size_toArray] at hp2 ⊢
          rw [List.size_toArray, List.length_append]
          simp only [List.length_cons, List.length_nil]
          omega
    · have hV := best_leaf (p := p) (ang := false) (f := f') HM.run hpk (others.data.toList.drop u') P
      rw [HM.val] at hV
      have hb3 := HM.b
      clear HM HDs
      cases fe with
      | pick => exact absurd rfl hpk
      | long => exact absurd rfl hnl2
      | done =>
        have HE : Hid (toldF R0.2.2 = ⟨#[100, 111, 110, 101]⟩ ∧ R0.2.1 = s' ∧ R0.1 = P) := by show _ ∧ _; rw [hV]; exact ⟨rfl, rfl, rfl⟩
        rw [show toldF .done = ⟨#[100, 111, 110, 101]⟩ from rfl]
        go_wp2_with (refine wp_store_Blk rfl _ _ _ rfl A rfl rfl HST at_i rfl (by simp [Value.oneCell']) ?_)
        go_region
        go_wp2_with fail
        go_ret3
        refine ⟨?_, hb3.drew⟩
        rw [HE.out.1, HE.out.2.1, HE.out.2.2]; rfl
      | broke b =>
        cases b
        · have HE : Hid (toldF R0.2.2 = ⟨#[100, 101, 109, 111, 110]⟩ ∧ R0.2.1 = s' ∧ R0.1 = P) := by show _ ∧ _; rw [hV]; exact ⟨rfl, rfl, rfl⟩
          rw [show toldF (.broke false) = ⟨#[100, 101, 109, 111, 110]⟩ from rfl]
          go_wp2_with (refine wp_store_Blk rfl _ _ _ rfl A rfl rfl HST at_i rfl (by simp [Value.oneCell']) ?_)
          go_region
          go_wp2_with fail
          go_ret3
          refine ⟨?_, hb3.drew⟩
          rw [HE.out.1, HE.out.2.1, HE.out.2.2]; rfl
        · have HE : Hid (toldF R0.2.2 = ⟨#[97, 110, 103, 101, 108]⟩ ∧ R0.2.1 = s' ∧ R0.1 = P) := by show _ ∧ _; rw [hV]; exact ⟨rfl, rfl, rfl⟩
          rw [show toldF (.broke true) = ⟨#[97, 110, 103, 101, 108]⟩ from rfl]
          go_wp2_with (refine wp_store_Blk rfl _ _ _ rfl A rfl rfl HST at_i rfl (by simp [Value.oneCell']) ?_)
          go_region
          go_wp2_with fail
          go_ret3
          refine ⟨?_, hb3.drew⟩
          rw [HE.out.1, HE.out.2.1, HE.out.2.2]; rfl
theorem spec_BestPlay_true (t : Ct) (ht : t.WF) (hlen : t.len ≤ 200) (hfl : t.flat = true) (s : Nat) (hs : s < 4) (p : Int) (hp : C p) (others : ByteArray) (ho : others.size ≤ 4611686018427387904) (hd : digsOk others = true) (w : World) :
    Calls Tryz.prog 5 #[.string t.text, .int .i64 s, .int .i64 p, .string (whoN true), .string others] w (BestEnd (best p true (t.num + 1) s [t] others.data.toList []) w) := by
  obtain ⟨fs, hu⟩ := at_u
  have hRd : Hid ((isCt t.text && stOk (s : Int)) = true) := by show _ = _; rw [isCt_txt ht hlen, stOk_of hs]; rfl
  have hLp : Hid ((!t.flat) = false) := by show _ = _; rw [hfl]; rfl
  have hCv : Hid (isC p = true) := isC_mk hp
  have hDg := Lib.hid hd
  have hsz : t.text.size ≤ 4611686018427387904 := by rw [t.text_size]; omega
  have HLps := Lib.hid (spec_HasLoops t ht hlen)
  have HDs : Hid (∀ k, k < others.size → digB (bt others k) = true) := fun k hk => digsOk_at others k hk hd
  clear hd
  obtain ⟨R0, hR0⟩ : ∃ R, best p true (t.num + 1) s [t] others.data.toList [] = R := ⟨_, rfl⟩
  rw [hR0]
  have HR0 := Lib.hid hR0
  clear hR0
  rw [show whoN true = ⟨#[97, 110, 103, 101, 108]⟩ from rfl]
  go_enter Tryz.func5, Tryz.ntmps5
  go_wp2_with fail
  refine (spec_l6Ready _ _ _ hsz).mono ?_
  rintro e w' ⟨rfl, rfl⟩
  rw [hRd.out]
  go_wp2_with fail
  refine (HLps.out _).mono ?_
  rintro e w1 ⟨rfl, hb1⟩
  rw [hLp.out]
  go_wp2_with fail
  refine (spec_ConditionValid _ _).mono ?_
  rintro e w' ⟨rfl, rfl⟩
  rw [hCv.out]
  go_wp2_with fail
  refine (spec_l6Digits _ ho _).mono ?_
  rintro e w' ⟨rfl, rfl⟩
  rw [hDg.out]
  have H0 := spec_BestPlay_start t ht hlen hfl s hs p true others R0 HR0.out w w1 hb1
  have hA : w.heap.size ≤ w1.heap.size + 1 := by have := hb1.size; omega
  go_wp2_with fail
  generalize w1.heap.size + 1 = A at *
  generalize ((w1.alloc (Obj.cells #[.string t.text] 9)).alloc (Obj.cells #[.slice (some ⟨w1.heap.size, 0, none⟩) 1 1, .int .i64 s] 38)) = W0 at *
  clear hb1 HR0 hRd hLp hDg HLps
  go_loopw [14, 15] (fun o u wr => ∃ (f s' : Nat) (ts : List Ct) (u' : Nat) (P : List UInt8) (g cap : Nat), o = .string ⟨P.toArray⟩ ∧ u = .int .i64 u' ∧ BPAt w wr A R0 p true others f s' ts u' P g cap) (fun o _ _ => 201 - szOf o)
  case atStart => exact ⟨_, s, [t], 0, [], _, _, rfl, rfl, H0⟩
  case round =>
    clear H0 hs
    obtain ⟨f, s', ts, u', P, g, cap, rfl, rfl, H⟩ := hrel
    have HLD := H.a
    have hlen2 := H.len
    go_wp2_with (refine wp_load_Blk rfl _ _ rfl A rfl HLD hu rfl at_i ?_)
    refine (spec_l6Run 200 s' H.hs ts H.fit (by omega) g cap H.hcap wr H.t).mono ?_
    rintro e w2 ⟨hb2, g2, cap2, he, hT2, hc2⟩
    obtain ⟨⟨m, us, fe⟩, hR⟩ : ∃ r, r = run 200 s' ts := ⟨_, rfl⟩
    rw [← hR] at hT2 hc2 he
    have he2 : e = .returned (.tuple #[.agg #[.slice (some ⟨g2, 0, none⟩) us.length cap2, .int .i64 s'], .string (toldF fe), .int .i64 (m : Nat)]) := he
    subst he2
    clear he
    obtain ⟨f', rfl, hnl2, HM⟩ := H.mid hA hb2 hR.symm hT2 hc2
    have HST := H.a.grown hb2
    clear hR H HLD hT2 hc2 hb2
    have HMa := HM.a
    obtain ⟨c0, c1⟩ := HMa.cell2
    by_cases hpk : fe = .pick
    · subst hpk
      rw [show toldF .pick = ⟨#[99, 104, 111, 105, 99, 101]⟩ from rfl]
      have hfull : run 200 s' ts = ((run 200 s' ts).1, us, .pick) := by rw [← HM.run]
      obtain ⟨t1, us1, rfl, hnx, hne, -, -⟩ := run_pick hfull
      clear hfull
      have hft := HM.fit t1 (by simp)
      have hcap2 := HM.hcap
      have hul : us1.length ≤ 900 := by have h1 := len_totB (t1 :: us1); have h2 := HM.tl; simp only [List.length_cons] at h1; omega
      simp only [List.length_cons] at HMa HST hcap2 ⊢
      go_wp2_with (first
        | (refine wp_store_Blk rfl _ _ _ rfl A rfl rfl HST at_i rfl (by simp [Value.oneCell']) ?_)
        | (refine wp_load_Blk rfl _ _ rfl A rfl HMa hu rfl at_i ?_))
      refine (spec_l6Options t1 hft.1 us1 s' HM.hs hnx g2 cap2 _ HM.t (by omega)).mono ?_
      rintro e w4 ⟨rfl, hb4⟩
      have HM4 := HM.grown hb4
      have HL4 := HM4.a
      simp only [List.length_cons] at HL4
      clear HM HMa HST c0 c1 hb4
      have hsz4 := optsB_size (t1.opts s')
      have hol := opts_le t1 s'
      have hl0 : 0 < (t1.opts s').length := List.length_pos_iff.2 hne
      have HOL : Hid (∀ j x, (t1.opts s')[j]? = some x → bt (optsB (t1.opts s')) j = decB x) := fun j x h => optsB_atB _ j x h
      have hhd : (t1.opts s')[0]? = some ((t1.opts s').headD 0) := by
        cases hq : t1.opts s' with
        | nil => exact absurd hq hne
        | cons a l => rfl
      obtain ⟨K0, hK0⟩ : ∃ K, (t1.opts s').headD 0 = K := ⟨_, rfl⟩
      rw [hK0] at hhd
      have HK0 := Lib.hid hK0
      clear hK0
      have hbt0 := HOL.out 0 _ hhd
      generalize hTX : optsB (t1.opts s') = TX at *
      clear hTX hhd
      cases hwho : t1.who
      · go_wp2_with (refine wp_load_Blk rfl _ _ rfl A rfl HL4 hu rfl at_i ?_)
        refine (spec_l6Who t1 us1 s' g2 cap2 _ HM4.t (by omega)).mono ?_
        rintro e w5 ⟨rfl, hb5⟩
        rw [hwho, show whoN false = ⟨#[100, 101, 109, 111, 110]⟩ from rfl]
        have HM5 := HM4.grown hb5
        have HL5 := HM5.a
        simp only [List.length_cons] at HL5
        clear HM4 HL4 hb5
        by_cases hlt : u' < others.size
        · have hlti : (u' : Int) < (others.size : Int) := by omega
          have hdg := HDs.out u' hlt
          have hdg2 : 48 ≤ (bt others u').toNat ∧ (bt others u').toNat ≤ 57 := by simpa [digB] using hdg
          obtain ⟨j, hj, hje⟩ : ∃ j : Nat, j < (t1.opts s').length ∧ ((((bt others u').toNat : Int) - 48) % ((t1.opts s').length : Nat)) = j := ⟨((bt others u').toNat - 48) % (t1.opts s').length, Nat.mod_lt _ hl0, by push_cast [Int.ofNat_sub hdg2.1]; rfl⟩
          have hjn : ((bt others u').toNat - 48) % (t1.opts s').length = j := by
            have h3 : (((bt others u').toNat - 48 : Nat) : Int) = ((bt others u').toNat : Int) - 48 := by omega
            rw [← h3] at hje
            exact_mod_cast hje
          have hgx : (t1.opts s')[j]? = some ((t1.opts s').getD j 0) := by rw [List.getD_eq_getElem?_getD, List.getElem?_eq_getElem hj]; rfl
          have hbtj := HOL.out j _ hgx
          have hK : (t1.opts s').getD j 0 ∈ t1.opts s' := List.mem_of_getElem? hgx
          have hz : chz p true t1 us1 s' (others.data.toList.drop u') = ((t1.opts s').getD j 0, others.data.toList.drop (u' + 1)) := by
            unfold chz
            rw [hwho, if_neg (by decide), drop_bt others u' hlt]
            show ((t1.opts s').getD (((bt others u').toNat - 48) % (t1.opts s').length) 0, _) = _
            rw [hjn]
          have e48a : ¬ ((bt others u').toNat : Int) - 48 < 0 := by omega
          have hu9 := HM5.hu
          clear hdg hjn hgx
          obtain ⟨K, hKd⟩ : ∃ K, (t1.opts s').getD j 0 = K := ⟨_, rfl⟩
          rw [hKd] at hK hz hbtj
          clear hKd
          have hcv := conv_byte ((decB K).toNat : Int) (decB K) rfl
          have HLt := HL5
          have hpl : P.length ≤ 200 := by have := HM5.tl; omega
          have hpsz : (⟨P.toArray⟩ : ByteArray).size ≤ 200 := by show P.toArray.size ≤ 200; rw [List.size_toArray]; exact hpl
          have hpsz2 : (⟨P.toArray⟩ : ByteArray).size = P.length := by show P.toArray.size = _; rw [List.size_toArray]
          go_wp2_with (refine wp_load_Blk rfl _ _ rfl A rfl (HLt.old _) hu rfl at_i ?_)
          refine (spec_l6Choose t1 us1 s' HM5.hs _ K (decB_toNat (opts_lt hK)) hnx hK g2 cap2 _ hft.1 hft.2 (HM5.t.grown (below_new (Below.refl _ _) _)) (by omega) hcap2).mono ?_
          rintro e w7 ⟨hb7, g3, cap3, rfl, hT7, hc7⟩
          have HB7 := (HLt.old _).grown hb7
          have HR := HM5.next hz hK (by omega) hA (below_step (below_new (Below.refl _ _) _) hb7) hT7 hc7
          have HPz : Hid ((⟨P.toArray⟩ : ByteArray) ++ ⟨#[decB K]⟩ = ⟨(P ++ [decB K]).toArray⟩) := arr_add P _
          simp only [List.length_append] at HR
          clear hb7 hT7 hc7 hcv
          go_wp2_with (refine wp_store_Blk rfl _ _ _ rfl A rfl rfl HB7 at_i rfl (by simp [Value.oneCell']) ?_)
          try simp only [Act.put]
          try go_wp2_with fail
          rw [HPz.out]
          refine ⟨⟨_, _, _, u' + 1, P ++ [decB K], g3, cap3, rfl, by go_num, HR⟩, ?_⟩
          simp only [szOf]
          show 201 - (P ++ [decB K]).toArray.size < 201 - P.toArray.size
          have hp2 : P.toArray.size ≤ 200 := hpsz
          rw [List.size_toArray] at hp2 ⊢
          rw [List.size_toArray, List.length_append]
          simp only [List.length_cons, List.length_nil]
          omega
        · have hlti : ¬ (u' : Int) < (others.size : Int) := by omega
          have hK : (t1.opts s').headD 0 ∈ t1.opts s' := headD_mem hne
          have hz : chz p true t1 us1 s' (others.data.toList.drop u') = ((t1.opts s').headD 0, others.data.toList.drop u') := by
            have hnil : others.data.toList.drop u' = [] := by rw [List.drop_eq_nil_iff, ← Lib.size_eq]; omega
            unfold chz
            rw [hwho, if_neg (by decide), hnil]; rfl
          have hu9 := HM5.hu
          rw [HK0.out] at hK hz
          have hcv := conv_byte ((decB K0).toNat : Int) (decB K0) rfl
          have HLt := HL5
          have hpl : P.length ≤ 200 := by have := HM5.tl; omega
          have hpsz : (⟨P.toArray⟩ : ByteArray).size ≤ 200 := by show P.toArray.size ≤ 200; rw [List.size_toArray]; exact hpl
          have hpsz2 : (⟨P.toArray⟩ : ByteArray).size = P.length := by show P.toArray.size = _; rw [List.size_toArray]
          go_wp2_with (refine wp_load_Blk rfl _ _ rfl A rfl (HLt.old _) hu rfl at_i ?_)
          refine (spec_l6Choose t1 us1 s' HM5.hs _ K0 (decB_toNat (opts_lt hK)) hnx hK g2 cap2 _ hft.1 hft.2 (HM5.t.grown (below_new (Below.refl _ _) _)) (by omega) hcap2).mono ?_
          rintro e w7 ⟨hb7, g3, cap3, rfl, hT7, hc7⟩
          have HB7 := (HLt.old _).grown hb7
          have HR := HM5.next hz hK (by omega) hA (below_step (below_new (Below.refl _ _) _) hb7) hT7 hc7
          have HPz : Hid ((⟨P.toArray⟩ : ByteArray) ++ ⟨#[decB K0]⟩ = ⟨(P ++ [decB K0]).toArray⟩) := arr_add P _
          simp only [List.length_append] at HR
          clear hb7 hT7 hc7 hcv
          go_wp2_with (refine wp_store_Blk rfl _ _ _ rfl A rfl rfl HB7 at_i rfl (by simp [Value.oneCell']) ?_)
          try simp only [Act.put]
          try go_wp2_with fail
          rw [HPz.out]
          refine ⟨⟨_, _, _, u', P ++ [decB K0], g3, cap3, rfl, by go_num, HR⟩, ?_⟩
          simp only [szOf]
          show 201 - (P ++ [decB K0]).toArray.size < 201 - P.toArray.size
          have hp2 : P.toArray.size ≤ 200 := hpsz
          rw [List.size_toArray] at hp2 ⊢
          rw [List.size_toArray, List.length_append]
          simp only [List.length_cons, List.length_nil]
          omega
      · go_wp2_with (refine wp_load_Blk rfl _ _ rfl A rfl HL4 hu rfl at_i ?_)
        refine (spec_l6Who t1 us1 s' g2 cap2 _ HM4.t (by omega)).mono ?_
        rintro e w5 ⟨rfl, hb5⟩
        rw [hwho, show whoN true = ⟨#[97, 110, 103, 101, 108]⟩ from rfl]
        have HM5 := HM4.grown hb5
        have HL5 := HM5.a
        simp only [List.length_cons] at HL5
        clear HM4 HL4 hb5
        go_wp2_with (refine wp_load_Blk rfl _ _ rfl A rfl HL5 hu rfl at_i ?_)
        refine (spec_l6Best t1 us1 HM5.fit s' HM5.hs hnx hne p hp true hul g2 cap2 _ HM5.t hcap2).mono ?_
        rintro e w6 ⟨rfl, hb6⟩
        have HM6 := HM5.grown hb6
        have HL6 := HM6.a
        simp only [List.length_cons] at HL6
        have hK := pickOf_mem p true t1 us1 hne
        have hz : chz p true t1 us1 s' (others.data.toList.drop u') = (pickOf p true t1 us1 s', others.data.toList.drop u') := by unfold chz; rw [hwho]; rfl
        have hu9 := HM6.hu
        clear HM5 HL5 hb6
        obtain ⟨K, hKd⟩ : ∃ K, pickOf p true t1 us1 s' = K := ⟨_, rfl⟩
        rw [hKd] at hK hz ⊢
        clear hKd
        have hcv := conv_byte ((decB K).toNat : Int) (decB K) rfl
        have HLt := HL6
        have hpl : P.length ≤ 200 := by have := HM6.tl; omega
        have hpsz : (⟨P.toArray⟩ : ByteArray).size ≤ 200 := by show P.toArray.size ≤ 200; rw [List.size_toArray]; exact hpl
        have hpsz2 : (⟨P.toArray⟩ : ByteArray).size = P.length := by show P.toArray.size = _; rw [List.size_toArray]
        go_wp2_with (refine wp_load_Blk rfl _ _ rfl A rfl (HLt.old _) hu rfl at_i ?_)
        refine (spec_l6Choose t1 us1 s' HM6.hs _ K (decB_toNat (opts_lt hK)) hnx hK g2 cap2 _ hft.1 hft.2 (HM6.t.grown (below_new (Below.refl _ _) _)) (by omega) hcap2).mono ?_
        rintro e w7 ⟨hb7, g3, cap3, rfl, hT7, hc7⟩
        have HB7 := (HLt.old _).grown hb7
        have HR := HM6.next hz hK (by omega) hA (below_step (below_new (Below.refl _ _) _) hb7) hT7 hc7
        have HPz : Hid ((⟨P.toArray⟩ : ByteArray) ++ ⟨#[decB K]⟩ = ⟨(P ++ [decB K]).toArray⟩) := arr_add P _
        simp only [List.length_append] at HR
        clear hb7 hT7 hc7 hcv
        go_wp2_with (refine wp_store_Blk rfl _ _ _ rfl A rfl rfl HB7 at_i rfl (by simp [Value.oneCell']) ?_)
        try simp only [Act.put]
        try go_wp2_with fail
        rw [HPz.out]
        refine ⟨⟨_, _, _, u', P ++ [decB K], g3, cap3, rfl, by go_num, HR⟩, ?_⟩
        simp only [szOf]
        show 201 - (P ++ [decB K]).toArray.size < 201 - P.toArray.size
        have hp2 : P.toArray.size ≤ 200 := hpsz
        rw [List.size_toArray] at hp2 ⊢
        rw [List.size_toArray, List.length_append]
        simp only [List.length_cons, List.length_nil]
        omega
    · have hV := best_leaf (p := p) (ang := true) (f := f') HM.run hpk (others.data.toList.drop u') P
      rw [HM.val] at hV
      have hb3 := HM.b
      clear HM HDs
      cases fe with
      | pick => exact absurd rfl hpk
      | long => exact absurd rfl hnl2
      | done =>
        have HE : Hid (toldF R0.2.2 = ⟨#[100, 111, 110, 101]⟩ ∧ R0.2.1 = s' ∧ R0.1 = P) := by show _ ∧ _; rw [hV]; exact ⟨rfl, rfl, rfl⟩
        rw [show toldF .done = ⟨#[100, 111, 110, 101]⟩ from rfl]
        go_wp2_with (refine wp_store_Blk rfl _ _ _ rfl A rfl rfl HST at_i rfl (by simp [Value.oneCell']) ?_)
        go_region
        go_wp2_with fail
        go_ret3
        refine ⟨?_, hb3.drew⟩
        rw [HE.out.1, HE.out.2.1, HE.out.2.2]; rfl
      | broke b =>
        cases b
        · have HE : Hid (toldF R0.2.2 = ⟨#[100, 101, 109, 111, 110]⟩ ∧ R0.2.1 = s' ∧ R0.1 = P) := by show _ ∧ _; rw [hV]; exact ⟨rfl, rfl, rfl⟩
          rw [show toldF (.broke false) = ⟨#[100, 101, 109, 111, 110]⟩ from rfl]
          go_wp2_with (refine wp_store_Blk rfl _ _ _ rfl A rfl rfl HST at_i rfl (by simp [Value.oneCell']) ?_)
          go_region
          go_wp2_with fail
          go_ret3
          refine ⟨?_, hb3.drew⟩
          rw [HE.out.1, HE.out.2.1, HE.out.2.2]; rfl
        · have HE : Hid (toldF R0.2.2 = ⟨#[97, 110, 103, 101, 108]⟩ ∧ R0.2.1 = s' ∧ R0.1 = P) := by show _ ∧ _; rw [hV]; exact ⟨rfl, rfl, rfl⟩
          rw [show toldF (.broke true) = ⟨#[97, 110, 103, 101, 108]⟩ from rfl]
          go_wp2_with (refine wp_store_Blk rfl _ _ _ rfl A rfl rfl HST at_i rfl (by simp [Value.oneCell']) ?_)
          go_region
          go_wp2_with fail
          go_ret3
          refine ⟨?_, hb3.drew⟩
          rw [HE.out.1, HE.out.2.1, HE.out.2.2]; rfl
end Go.Proofs.YtaeibhpkcikaaaaGreatDoor
