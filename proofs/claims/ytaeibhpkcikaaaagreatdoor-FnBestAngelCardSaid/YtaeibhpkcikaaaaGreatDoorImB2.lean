/- Plays with the best choices: the program's BestPlay. -/
import Derived.Test.YtaeibhpkcikaaaaGreatDoorImB
namespace Go.Proofs.YtaeibhpkcikaaaaGreatDoor
set_option linter.unusedVariables false
set_option linter.unusedSimpArgs false
open Go.RowKit Go.Shelf
set_option maxRecDepth 100000
set_option maxHeartbeats 20000000

theorem digs_tail (s : ByteArray) (h : digsOk s = true) : digsOk ⟨(s.data.toList.drop 1).toArray⟩ = true := by
  unfold digsOk at *
  rw [List.all_eq_true] at *
  intro x hx
  exact h x (List.mem_of_mem_drop hx)
theorem ext_one (s : ByteArray) : s.extract 1 s.size = ⟨(s.data.toList.drop 1).toArray⟩ := by
  apply ByteArray.ext; apply Array.ext'
  rw [ByteArray.data_extract, Array.toList_extract]
  simp only [List.extract]
  rw [List.take_of_length_le (by rw [List.length_drop, Lib.size_eq]; omega)]
structure IB (w wr : World) (S : Nat → Prop) (X : Nat) (R0 : BestR) (p : Int) (ang : Bool) (n f s : Nat) (ts : List Ct) (os : ByteArray) (P : List UInt8) (g cap : Nat) : Prop where
  val : best p ang f s ts os.data.toList P = R0
  hf : tot ts < f
  tl : tot ts + P.length ≤ 200
  n1 : tot ts ≤ n
  hn : n ≤ 200
  flat : Flat ts
  fit : FitC ts
  hs : s < 4
  ho : os.size ≤ 4611686018427387904
  hd : digsOk os = true
  hS : ∀ q, S q → q < w.heap.size
  hX : w.heap.size ≤ X
  a : Blk wr X 50 #[.int .i64 s, .slice (some ⟨g, 0, none⟩) ts.length cap, .int .i64 ((200 - n : Nat))]
  t : AtP wr S ts g cap
  b : Below w.heap.size w wr
theorem IB.len {w wr : World} {S : Nat → Prop} {X : Nat} {R0 : BestR} {p : Int} {ang : Bool} {n f s : Nat} {ts : List Ct} {os : ByteArray} {P : List UInt8} {g cap : Nat} (h : IB w wr S X R0 p ang n f s ts os P g cap) : ts.length ≤ 200 := by
  have := len_totB ts; have := h.tl; omega
/-- behind a run -/
structure IBM (w wr : World) (S : Nat → Prop) (X Y : Nat) (cx : Array Value) (R0 : BestR) (p : Int) (ang : Bool) (f s : Nat) (ts : List Ct) (os : ByteArray) (P : List UInt8) (m : Nat) (us : List Ct) (e : Fin) (g cap : Nat) : Prop where
  val : best p ang (f + 1) s ts os.data.toList P = R0
  run : (Go.Proofs.YtaeibhpkcikaaaaGreatDoor.run 200 s ts).2 = (us, e)
  hf : tot us ≤ f
  tl : tot us + P.length ≤ 200
  n1 : tot us ≤ m
  hm : m ≤ 200
  flat : Flat us
  fit : FitC us
  hs : s < 4
  ho : os.size ≤ 4611686018427387904
  hd : digsOk os = true
  hS : ∀ q, S q → q < w.heap.size
  hX : w.heap.size ≤ X
  hY : X < Y
  x : Blk wr X 50 cx
  y : Blk wr Y 50 #[.int .i64 s, .slice (some ⟨g, 0, none⟩) us.length cap, .int .i64 ((200 - m : Nat))]
  t : AtP wr S us g cap
  b : Below w.heap.size w wr
theorem IBM.grown {w wr wr' : World} {S : Nat → Prop} {X Y : Nat} {cx : Array Value} {R0 : BestR} {p : Int} {ang : Bool} {f s : Nat} {ts : List Ct} {os : ByteArray} {P : List UInt8} {m : Nat} {us : List Ct} {e : Fin} {g cap : Nat} (h : IBM w wr S X Y cx R0 p ang f s ts os P m us e g cap) (hb : Below wr.heap.size wr wr') : IBM w wr' S X Y cx R0 p ang f s ts os P m us e g cap :=
  ⟨h.val, h.run, h.hf, h.tl, h.n1, h.hm, h.flat, h.fit, h.hs, h.ho, h.hd, h.hS, h.hX, h.hY, h.x.grown hb, h.y.grown hb, h.t.grown hb, below_step h.b hb⟩
theorem IB.mid {w wr : World} {S : Nat → Prop} {X : Nat} {R0 : BestR} {p : Int} {ang : Bool} {n f s : Nat} {ts : List Ct} {os : ByteArray} {P : List UInt8} {g cap : Nat} (h : IB w wr S X R0 p ang n f s ts os P g cap) {w2 : World} (hb : Below wr.heap.size wr w2) {us : List Ct} {e : Fin} {m g2 cap2 : Nat} (hr : Go.Proofs.YtaeibhpkcikaaaaGreatDoor.run n s ts = (m, us, e)) (hT : AtP w2 S us g2 cap2) :
    ∃ f', f = f' + 1 ∧ e ≠ .long ∧ IBM w (w2.alloc (Obj.cells #[.int .i64 s, .slice (some ⟨g2, 0, none⟩) us.length cap2, .int .i64 ((200 - m : Nat))] 50)) S X w2.heap.size #[.int .i64 s, .slice (some ⟨g, 0, none⟩) ts.length cap, .int .i64 ((200 - n : Nat))] R0 p ang f' s ts os P m us e g2 cap2 := by
  obtain ⟨f', rfl⟩ : ∃ f', f = f' + 1 := ⟨f - 1, by have := h.hf; omega⟩
  have htl : tot ts ≤ 200 := by have := h.tl; omega
  have hfl := run_flat (s := s) (n := n) h.fit h.flat h.n1
  have hfr := fit_run0 (n := n) (s := s) h.fit
  rw [hr] at hfl hfr
  have hm := run_le0 n s ts
  rw [hr] at hm
  simp only at hm
  have h200 := hfl.2.2.2 200 htl
  have h2 := hfl.2.1
  have hn := h.hn
  have hn1 := h.n1
  have hX := h.a.grown hb
  refine ⟨f', rfl, hfl.2.2.1, ⟨h.val, h200, ?_, ?_, ?_, by omega, hfl.1, hfr, h.hs, h.ho, h.hd, h.hS, h.hX, hX.lt, hX.old _, Blk.new w2 _ _, hT.grown (below_new (Below.refl _ _) _), below_new (below_step h.b hb) _⟩⟩
  · have := h.hf; simp only at h2; omega
  · have := h.tl; simp only at h2; omega
  · simp only at h2; omega
theorem IBM.next {w wr : World} {S : Nat → Prop} {X Y : Nat} {R0 : BestR} {p : Int} {ang : Bool} {f s : Nat} {ts : List Ct} {os os2 : ByteArray} {P : List UInt8} {m : Nat} {t1 : Ct} {us1 : List Ct} {g cap : Nat} {v0 : Int} {p0 : Option Addr} {l0 c0 : Nat} {v2 : Int} (h : IBM w wr S X Y #[.int .i64 v0, .slice p0 l0 c0, .int .i64 v2] R0 p ang f s ts os P m (t1 :: us1) .pick g cap) {K : Nat} (hz : chz p ang t1 us1 s os.data.toList = (K, os2.data.toList)) (hK : K ∈ t1.opts s) (hd2 : digsOk os2 = true) (ho2 : os2.size ≤ 4611686018427387904) {w7 : World} (hb : Below wr.heap.size wr w7) {g3 cap3 : Nat}
    (hT : AtP w7 S ((t1.chose s K).2 ++ us1) g3 cap3) :
    IB w (w7.setRow X #[.int .i64 ((t1.chose s K).1 : Nat), .slice (some ⟨g3, 0, none⟩) ((t1.chose s K).2 ++ us1).length cap3, .int .i64 (((200 - m : Nat) : Int) + 1)]) S X R0 p ang (m - 1) f (t1.chose s K).1 ((t1.chose s K).2 ++ us1) os2 (P ++ [decB K]) g3 cap3 := by
  have hft := h.fit t1 (by simp)
  have hlt := h.flat t1 (by simp)
  have hcf := chose_flat hft.1 hlt s K
  have hBX := h.x.grown hb
  have h1 := h.hf
  have h2 := h.tl
  have h3 := h.n1
  have h4 := h.hm
  have h5 := h.hX
  have h6 : 1 ≤ t1.num := by cases t1 <;> simp [Ct.num] <;> omega
  simp only [tot] at h1 h2 h3
  rw [show (((200 - m : Nat) : Int) + 1) = ((200 - (m - 1) : Nat) : Int) by omega]
  refine ⟨?_, by rw [tot_app]; omega, by rw [tot_app, List.length_append]; simp only [List.length_cons, List.length_nil]; omega, by rw [tot_app]; omega, by omega, hcf.1.app h.flat.tail, (fit_chose h.fit s K).1, chose_lt h.hs hK, ho2, hd2, h.hS, h.hX, hBX.setRow _, hT.setRow hBX (fun hq => by have := h.hS _ hq; omega) _, below_setRow (below_step h.b hb) h5 _⟩
  have hv := h.val
  rw [best_pick h.run, hz] at hv
  exact hv
theorem IB.start (t : Ct) (ht : t.WF) (hlen : t.len ≤ 200) (hfl : t.flat = true) (s : Nat) (hs : s < 4) (p : Int) (ang : Bool) (others : ByteArray) (ho : others.size ≤ 4611686018427387904) (hd : digsOk others = true) (R0 : BestR) (hR : best p ang (t.num + 1) s [t] others.data.toList [] = R0) (w w1 : World) (S : Nat → Prop) (hS : ∀ q, S q → q < w.heap.size) (hb1 : Below w.heap.size w w1) (g : Nat) (hT : AtP w1 S [t] g 1) :
    IB w (w1.alloc (Obj.cells #[.int .i64 s, .slice (some ⟨g, 0, none⟩) 1 1, .int .i64 0] 50)) S w1.heap.size R0 p ang 200 (t.num + 1) s [t] others [] g 1 := by
  have hnl := t.num_le
  exact ⟨hR, by simp [tot], by simp [tot]; omega, by simp [tot]; omega, by omega, (fun x hx => by simp at hx; subst hx; exact hfl), (fun x hx => by simp at hx; subst hx; exact ⟨ht, hlen⟩), hs, ho, hd, hS, hb1.size, Blk.new w1 _ _, hT.grown (below_new (Below.refl _ _) _), below_new hb1 _⟩
theorem impl_BestPlay_false (t : Ct) (ht : t.WF) (hlen : t.len ≤ 200) (hfl : t.flat = true) (s : Nat) (hs : s < 4) (p : Int) (hp : C p) (others : ByteArray) (ho : others.size ≤ 4611686018427387904) (hd : digsOk others = true) (w : World) :
    Calls Tryz.prog 6 #[.string t.text, .int .i64 s, .int .i64 p, .string (whoN false), .string others] w (BestEnd (best p false (t.num + 1) s [t] others.data.toList []) w) := by
  obtain ⟨fs, hu⟩ := pl_u
  have HSO : Hid (stOk (s : Int) = true) := stOk_of hs
  have HCv : Hid (isC p = true) := isC_mk hp
  have HDG := Lib.hid (impl_digs others ho)
  have HC1 := Lib.hid (impl_count loopW t hlen)
  have HZ : Hid (t.cnt (inOps loopW) = 0) := (cnt_loop t).2 hfl
  have HDo := Lib.hid hd
  clear hd
  obtain ⟨R0, hR0⟩ : ∃ R, best p false (t.num + 1) s [t] others.data.toList [] = R := ⟨_, rfl⟩
  rw [hR0]
  have HR0 := Lib.hid hR0
  clear hR0
  rw [show whoN false = ⟨#[100, 101, 109, 111, 110]⟩ from rfl]
  go_enter Tryz.func6, Tryz.ntmps6
  go_wp2_with fail
  refine (impl_read t.text (szCtP hlen) _).mono ?_
  intro e w1 hA
  obtain ⟨b, rfl, hT, hb1⟩ := read_tree ht hlen hA
  clear hA
  go_wp2_with fail
  refine (HC1.out b _ _ hT).mono ?_
  rintro e w' ⟨rfl, rfl⟩
  rw [HZ.out, show ((0 : Nat) : Int) = 0 from rfl]
  go_wp2_with fail
  refine (impl_stateOk _ _).mono ?_
  rintro e w' ⟨rfl, rfl⟩
  rw [HSO.out]
  go_wp2_with fail
  refine (impl_ConditionValid _ _).mono ?_
  rintro e w' ⟨rfl, rfl⟩
  rw [HCv.out]
  go_wp2_with fail
  refine (HDG.out _).mono ?_
  rintro e w2 ⟨⟨r, rfl, hr0⟩, hb2⟩
  have hr := hr0.2 HDo.out
  clear hr0
  obtain rfl : r = ⟨#[]⟩ := by
    have : r.data.size = 0 := hr
    have h2 : r.data = #[] := Array.eq_empty_of_size_eq_zero this
    cases r; simp at h2; rw [h2]
  go_wp2_with fail
  refine (impl_start _ t b s _ (Tree.grown hb2 t b hT) (fun q hq => by have := hb2.size; omega)).mono ?_
  rintro e w3 ⟨g, rfl, hP3, hb3⟩
  have H0 := IB.start t ht hlen hfl s hs p false others ho HDo.out R0 HR0.out w1 w3 _ (fun q hq => hq) (below_step hb2 hb3) g hP3
  generalize (fun q => q < w1.heap.size) = S at *
  clear hb2 hb3 hP3 hT HDo HDG HC1 HZ HSO HR0 ho
  go_wp2_with (refine wp_store_BlkNew rfl _ _ _ rfl rfl rfl pl_i rfl (by simp [Value.oneCell']) ?_)
  generalize w3.alloc (Obj.cells #[.int .i64 s, .slice (some ⟨g, 0, none⟩) 1 1, .int .i64 0] 50) = W0 at *
  generalize w3.heap.size = X at *
  simp only [Act.put]
  go_loopw [4, 14] (fun q o wr => ∃ (n f s' : Nat) (ts : List Ct) (os : ByteArray) (P : List UInt8) (g cap : Nat), q = .string os ∧ o = .string ⟨P.toArray⟩ ∧ IB w1 wr S X R0 p false n f s' ts os P g cap) (fun _ o _ => 201 - szOf o)
  case atStart => exact ⟨200, _, s, [t], others, [], _, _, rfl, rfl, H0⟩
  case round =>
    clear H0 hs
    obtain ⟨n, f, s', ts, os, P, g, cap, rfl, rfl, H⟩ := hrel
    have HX := H.a
    have hlen2 := H.len
    have hn2 := H.hn
    go_wp2_with (refine wp_load_Blk rfl _ _ rfl X rfl HX hu rfl pl_i ?_)
    refine (impl_fwd S n s' H.hs H.hn ts H.fit (by omega) g cap wr H.t (fun q hq => by have := H.hS q hq; have := H.b.size; omega)).mono ?_
    rintro e w2 ⟨hb2, g2, cap2, he, hP2⟩
    obtain ⟨⟨m, us, fe⟩, hR⟩ : ∃ r, r = run n s' ts := ⟨_, rfl⟩
    rw [← hR] at hP2 he
    have he2 : e = .returned (.tuple #[.agg #[.int .i64 s', .slice (some ⟨g2, 0, none⟩) us.length cap2, .int .i64 ((200 - m : Nat))], .string (fwW (us, fe)), .string (fwE fe)]) := he
    subst he2
    clear he
    obtain ⟨f', rfl, hnl2, HM⟩ := H.mid hb2 hR.symm hP2
    clear hR H HX hP2 hb2 hlen2 hn2
    have HY := HM.y
    by_cases hpk : fe = .pick
    · subst hpk
      obtain ⟨t1, us1, hus, hnx, hne, -, -⟩ := run_pick (show run 200 s' ts = ((run 200 s' ts).1, us, .pick) by rw [← HM.run])
      subst hus
      have HWN : Hid (fwW (t1 :: us1, .pick) = whoN t1.who) := rfl
      have hft := HM.fit t1 (by simp)
      have hul : us1.length ≤ 900 := by have h1 := len_totB (t1 :: us1); have h2 := HM.tl; simp only [List.length_cons] at h1; omega
      have hol := opts_le t1 s'
      have hl0 : 0 < (t1.opts s').length := List.length_pos_iff.2 hne
      have hmm := HM.hm
      simp only [List.length_cons] at HY
      obtain ⟨K0, hK0⟩ : ∃ K, (t1.opts s').headD 0 = K := ⟨_, rfl⟩
      have hhd : (t1.opts s')[0]? = some K0 := by
        rw [← hK0]
        cases hq : t1.opts s' with
        | nil => exact absurd hq hne
        | cons a l => rfl
      have HK0 := Lib.hid hK0
      clear hK0
      cases hwho : t1.who
      all_goals
        first
        | rw [HWN.out, hwho, show fwE .pick = ⟨#[]⟩ from rfl, show whoN false = ⟨#[100, 101, 109, 111, 110]⟩ from rfl]
        | rw [HWN.out, hwho, show fwE .pick = ⟨#[]⟩ from rfl, show whoN true = ⟨#[97, 110, 103, 101, 108]⟩ from rfl]
        simp only [List.length_cons] at HM ⊢
        have hw2l : w2.heap.size = w2.heap.size := rfl
        go_wp2_with (first
          | (refine wp_store_BlkNew rfl _ _ _ rfl rfl rfl pl_i rfl (by simp [Value.oneCell']) ?_)
          | (refine wp_load_Blk rfl _ _ rfl w2.heap.size rfl HY hu rfl pl_i ?_))
        generalize w2.alloc (Obj.cells #[.int .i64 s', .slice (some ⟨g2, 0, none⟩) (us1.length + 1) cap2, .int .i64 ((200 - m : Nat))] 50) = w3 at *
        generalize w2.heap.size = Y at *
        refine (impl_choices S t1 hft.1 us1 s' HM.hs hnx (200 - m) g2 cap2 _ HM.t (by omega)).mono ?_
        rintro e w4 ⟨g4, cap4, rfl, hI4, hb4, -⟩
        have HM4 := HM.grown hb4
        clear HM HY hb4
        have hc0 := hI4.lies 0 K0 hhd
        have HHD := Lib.hid hhd
        have hmem : K0 ∈ t1.opts s' := List.mem_of_getElem? hhd
        clear hhd
      · skip
        go_wp2_with fail
        go_loopw [20, 80] (fun v i wr => v = .int .i64 (K0 : Nat) ∧ ∃ k : Nat, k ≤ (t1.opts s').length ∧ i = .int .i64 k ∧ Hid (∀ j y, j < k → (t1.opts s')[j]? = some y → (winAt p t1 us1 s' y == false) = false) ∧ IBM w1 wr S X Y #[.int .i64 s', .slice (some ⟨g, 0, none⟩) ts.length cap, .int .i64 ((200 - n : Nat))] R0 p false f' s' ts os P m (t1 :: us1) .pick g2 cap2 ∧ Ints wr g4 (t1.opts s')) (fun _ i _ => (t1.opts s').length - (intOf i).toNat)
        case atStart => exact ⟨rfl, 0, by omega, rfl, (fun j y hj => by omega), HM4, hI4⟩
        case round =>
          clear HM4 hI4 hc0
          obtain ⟨rfl, k, hk, rfl, HK, HM5, hI5⟩ := hrel
          have HY5 := HM5.y
          simp only [List.length_cons] at HY5
          by_cases hlt : k < (t1.opts s').length
          · have hki : (k : Int) < ((t1.opts s').length : Nat) := by omega
            obtain ⟨K, hx⟩ : ∃ x, (t1.opts s')[k]? = some x := ⟨_, List.getElem?_eq_getElem hlt⟩
            have hc := hI5.lies k K hx
            have hK := List.mem_of_getElem? hx
            have HX5 := Lib.hid hx
            clear hx
            go_wp2_with (refine wp_load_Blk rfl _ _ rfl Y rfl HY5 hu rfl pl_i ?_)
            refine (impl_choose S t1 hft.1 us1 s' K hnx hK (200 - m) g2 cap2 _ (by omega) HM5.t (by omega) (fun q hq => by have := HM5.hS q hq; have := HM5.b.size; omega)).mono ?_
            rintro e w5 ⟨g5, cap5, rfl, hP5, hb5⟩
            have hfc := fit_chose HM5.fit s' K
            have HM6 := HM5.grown hb5
            have hI6 := hI5.grown hb5
            have hfl6 := hfc.2
            clear HM5 hI5 HY5 hb5 hc
            go_wp2_with fail
            refine (impl_wins S _ hfc.1 _ (chose_lt HM6.hs hK) p hp _ List.length_append (by omega) g5 cap5 _ _ hP5).mono ?_
            rintro e w6 ⟨rfl, hb6⟩
            have HM7 := HM6.grown hb6
            have hI7 := hI6.grown hb6
            clear HM6 hI6 hb6 hP5
            obtain ⟨V, hV⟩ : ∃ V, has (semL ((t1.chose s' K).2 ++ us1) p) (t1.chose s' K).1 = V := ⟨_, rfl⟩
            rw [hV]
            have HW : Hid (winAt p t1 us1 s' K = V) := hV
            clear hV
            cases V
            · have hz : chz p false t1 us1 s' os.data.toList = (K, os.data.toList) := by
                unfold chz
                rw [hwho, if_pos (by decide)]
                unfold pickOf
                rw [find_at _ _ k K HX5.out (by rw [HW.out]; rfl) (fun j y hj hy => HK.out j y hj hy)]; rfl
              have hd2 := HM7.hd
              have ho2 := HM7.ho
              clear HK HX5 hI7 HW
              have hKlt : K < 4 := opts_lt hK
              have hpl : P.length ≤ 200 := by have := HM7.tl; omega
              have hpsz : (⟨P.toArray⟩ : ByteArray).size ≤ 200 := by show P.toArray.size ≤ 200; rw [List.size_toArray]; exact hpl
              have HPz : Hid ((⟨P.toArray⟩ : ByteArray) ++ ⟨#[decB K]⟩ = ⟨(P ++ [decB K]).toArray⟩) := arr_add P _
              have HYY := HM7.y
              simp only [List.length_cons] at HYY
              have hsS := HM7.hS
              have hsB := HM7.b.size
              have hHK := Lib.hid hK
              have hHz := Lib.hid hz
              clear hz hK
              obtain rfl | rfl | rfl | rfl : K = 0 ∨ K = 1 ∨ K = 2 ∨ K = 3 := by omega
              all_goals
                have hU0 : Utf8.encode 48 = ⟨#[48]⟩ := by rfl
                have hU1 : Utf8.encode 49 = ⟨#[49]⟩ := by rfl
                have hU2 : Utf8.encode 50 = ⟨#[50]⟩ := by rfl
                have hU3 : Utf8.encode 51 = ⟨#[51]⟩ := by rfl
                go_wp2_with (refine wp_load_Blk rfl _ _ rfl Y rfl HYY hu rfl pl_i ?_)
                refine (impl_choose S t1 hft.1 us1 s' _ hnx hHK.out (200 - m) g2 cap2 _ (by omega) HM7.t (by omega) (fun q hq => by have := hsS q hq; omega)).mono ?_
                rintro e w7 ⟨g3, cap3, rfl, hT7, hb7⟩
                have HB7 := HM7.x.grown hb7
                have HR := HM7.next hHz.out hHK.out hd2 ho2 hb7 hT7
                simp only [List.length_append] at HR
                clear hb7 hT7
                go_wp2_with (refine wp_store_Blk rfl _ _ _ rfl X rfl rfl HB7 pl_i rfl (by simp [Value.oneCell']) ?_)
                try simp only [Act.put]
                try go_wp2_with fail
                refine ⟨⟨_, _, _, _, os, P ++ [decB _], g3, cap3, rfl, by rw [← HPz.out]; rfl, HR⟩, ?_⟩
                simp only [szOf, ByteArray.size_append]
                show 201 - ((⟨P.toArray⟩ : ByteArray).size + 1) < _
                omega

            · have HK2 : Hid (∀ j y, j < k + 1 → (t1.opts s')[j]? = some y → (winAt p t1 us1 s' y == false) = false) := fun j y hj hy => by
                rcases Nat.lt_or_ge j k with h | h
                · exact HK.out j y h hy
                · obtain rfl : j = k := by omega
                  have := HX5.out.symm.trans hy
                  cases this
                  rw [HW.out]; rfl
              go_wp2_with fail
              go_roundw
              case rel => exact ⟨rfl, k + 1, by omega, by go_num, HK2, HM7, hI7⟩
              case measure => simp [intOf]; omega
          · obtain rfl : k = (t1.opts s').length := by omega
            have hz : chz p false t1 us1 s' os.data.toList = (K0, os.data.toList) := by
              unfold chz
              rw [hwho, if_pos (by decide)]
              unfold pickOf
              rw [List.find?_eq_none.2 (fun y hy => by
                obtain ⟨j, hj, rfl⟩ := List.getElem_of_mem hy
                have := HK.out j _ hj (List.getElem?_eq_getElem hj)
                simpa using this), HK0.out]; rfl
            have hK := hmem
            have hd2 := HM5.hd
            have ho2 := HM5.ho
            clear HK hlt HY5 hI5
            have hKlt : K0 < 4 := opts_lt hK
            have hpl : P.length ≤ 200 := by have := HM5.tl; omega
            have hpsz : (⟨P.toArray⟩ : ByteArray).size ≤ 200 := by show P.toArray.size ≤ 200; rw [List.size_toArray]; exact hpl
            have HPz : Hid ((⟨P.toArray⟩ : ByteArray) ++ ⟨#[decB K0]⟩ = ⟨(P ++ [decB K0]).toArray⟩) := arr_add P _
            have HYY := HM5.y
            simp only [List.length_cons] at HYY
            have hsS := HM5.hS
            have hsB := HM5.b.size
            have hHK := Lib.hid hK
            have hHz := Lib.hid hz
            clear hz hK
            obtain rfl | rfl | rfl | rfl : K0 = 0 ∨ K0 = 1 ∨ K0 = 2 ∨ K0 = 3 := by omega
            all_goals
              have hU0 : Utf8.encode 48 = ⟨#[48]⟩ := by rfl
              have hU1 : Utf8.encode 49 = ⟨#[49]⟩ := by rfl
              have hU2 : Utf8.encode 50 = ⟨#[50]⟩ := by rfl
              have hU3 : Utf8.encode 51 = ⟨#[51]⟩ := by rfl
              go_wp2_with (refine wp_load_Blk rfl _ _ rfl Y rfl HYY hu rfl pl_i ?_)
              refine (impl_choose S t1 hft.1 us1 s' _ hnx hHK.out (200 - m) g2 cap2 _ (by omega) HM5.t (by omega) (fun q hq => by have := hsS q hq; omega)).mono ?_
              rintro e w7 ⟨g3, cap3, rfl, hT7, hb7⟩
              have HB7 := HM5.x.grown hb7
              have HR := HM5.next hHz.out hHK.out hd2 ho2 hb7 hT7
              simp only [List.length_append] at HR
              clear hb7 hT7
              go_wp2_with (refine wp_store_Blk rfl _ _ _ rfl X rfl rfl HB7 pl_i rfl (by simp [Value.oneCell']) ?_)
              try simp only [Act.put]
              try go_wp2_with fail
              refine ⟨⟨_, _, _, _, os, P ++ [decB _], g3, cap3, rfl, by rw [← HPz.out]; rfl, HR⟩, ?_⟩
              simp only [szOf, ByteArray.size_append]
              show 201 - ((⟨P.toArray⟩ : ByteArray).size + 1) < _
              omega
      · skip
        by_cases hlt : 0 < os.size
        · have hoe : os.toList.isEmpty = false := by
            rw [ByteArray.toList_eq]
            cases hq : os.data.toList with
            | nil => rw [Lib.size_eq, hq] at hlt; simp at hlt
            | cons a l => rfl
          have hdg := digsOk_at os 0 hlt HM4.hd
          have hdg2 : 48 ≤ (bt os 0).toNat ∧ (bt os 0).toNat ≤ 57 := by simpa [digB] using hdg
          obtain ⟨j, hj, hje⟩ : ∃ j : Nat, j < (t1.opts s').length ∧ ((((bt os 0).toNat : Int) - 48) % ((t1.opts s').length : Nat)) = j := ⟨((bt os 0).toNat - 48) % (t1.opts s').length, Nat.mod_lt _ hl0, by push_cast [Int.ofNat_sub hdg2.1]; rfl⟩
          have hjn : ((bt os 0).toNat - 48) % (t1.opts s').length = j := by
            have h3 : (((bt os 0).toNat - 48 : Nat) : Int) = ((bt os 0).toNat : Int) - 48 := by omega
            rw [← h3] at hje
            exact_mod_cast hje
          have hji : (j : Int) < ((t1.opts s').length : Nat) := by omega
          have hgx : (t1.opts s')[j]? = some ((t1.opts s').getD j 0) := by rw [List.getD_eq_getElem?_getD, List.getElem?_eq_getElem hj]; rfl
          have hK : (t1.opts s').getD j 0 ∈ t1.opts s' := List.mem_of_getElem? hgx
          have hz0 : chz p false t1 us1 s' os.data.toList = ((t1.opts s').getD j 0, os.data.toList.drop 1) := by
            unfold chz
            have h0 := drop_bt os 0 hlt
            rw [List.drop_zero] at h0
            rw [hwho, if_neg (by decide), h0]
            show ((t1.opts s').getD (((bt os 0).toNat - 48) % (t1.opts s').length) 0, _) = _
            rw [hjn]; rfl
          have hcj := hI4.lies j _ hgx
          have ho2 : (⟨(os.data.toList.drop 1).toArray⟩ : ByteArray).size ≤ 4611686018427387904 := by
            have := HM4.ho
            rw [Lib.size_eq] at this ⊢
            simp only [List.length_drop]; omega
          have hd2 := digs_tail os HM4.hd
          have hosz := HM4.ho
          obtain ⟨K, hKd⟩ : ∃ K, (t1.opts s').getD j 0 = K := ⟨_, rfl⟩
          rw [hKd] at hK hz0 hcj
          have hz : chz p false t1 us1 s' os.data.toList = (K, (⟨(os.data.toList.drop 1).toArray⟩ : ByteArray).data.toList) := hz0
          clear hKd hdg hjn hgx hz0 hI4 HHD HK0
          have hKlt : K < 4 := opts_lt hK
          have hpl : P.length ≤ 200 := by have := HM4.tl; omega
          have hpsz : (⟨P.toArray⟩ : ByteArray).size ≤ 200 := by show P.toArray.size ≤ 200; rw [List.size_toArray]; exact hpl
          have HPz : Hid ((⟨P.toArray⟩ : ByteArray) ++ ⟨#[decB K]⟩ = ⟨(P ++ [decB K]).toArray⟩) := arr_add P _
          have HYY := HM4.y
          simp only [List.length_cons] at HYY
          have hsS := HM4.hS
          have hsB := HM4.b.size
          have hHK := Lib.hid hK
          have hHz := Lib.hid hz
          clear hz hK
          obtain rfl | rfl | rfl | rfl : K = 0 ∨ K = 1 ∨ K = 2 ∨ K = 3 := by omega
          all_goals
            have hU0 : Utf8.encode 48 = ⟨#[48]⟩ := by rfl
            have hU1 : Utf8.encode 49 = ⟨#[49]⟩ := by rfl
            have hU2 : Utf8.encode 50 = ⟨#[50]⟩ := by rfl
            have hU3 : Utf8.encode 51 = ⟨#[51]⟩ := by rfl
            go_wp2_with (refine wp_load_Blk rfl _ _ rfl Y rfl HYY hu rfl pl_i ?_)
            refine (impl_choose S t1 hft.1 us1 s' _ hnx hHK.out (200 - m) g2 cap2 _ (by omega) HM4.t (by omega) (fun q hq => by have := hsS q hq; omega)).mono ?_
            rintro e w7 ⟨g3, cap3, rfl, hT7, hb7⟩
            have HB7 := HM4.x.grown hb7
            have HR := HM4.next hHz.out hHK.out hd2 ho2 hb7 hT7
            simp only [List.length_append] at HR
            clear hb7 hT7
            go_wp2_with (refine wp_store_Blk rfl _ _ _ rfl X rfl rfl HB7 pl_i rfl (by simp [Value.oneCell']) ?_)
            try simp only [Act.put]
            try go_wp2_with fail
            refine ⟨⟨_, _, _, _, ⟨(os.data.toList.drop 1).toArray⟩, P ++ [decB _], g3, cap3, (by rw [ext_one]), by rw [← HPz.out]; rfl, HR⟩, ?_⟩
            simp only [szOf, ByteArray.size_append]
            show 201 - ((⟨P.toArray⟩ : ByteArray).size + 1) < _
            omega
        · have hoe : os.toList.isEmpty = true := by
            rw [ByteArray.toList_eq]
            cases hq : os.data.toList with
            | nil => rfl
            | cons a l => exfalso; apply hlt; rw [Lib.size_eq, hq]; simp
          have hnil : os.data.toList = [] := by rw [ByteArray.toList_eq] at hoe; exact List.isEmpty_iff.1 hoe
          have hK := hmem
          have hz : chz p false t1 us1 s' os.data.toList = (K0, os.data.toList) := by
            unfold chz
            rw [hwho, if_neg (by decide), hnil]
            show ((t1.opts s').headD 0, _) = _
            rw [HK0.out]
          have hd2 := HM4.hd
          have ho2 := HM4.ho
          clear hnil hI4 HHD HK0
          have hKlt : K0 < 4 := opts_lt hK
          have hpl : P.length ≤ 200 := by have := HM4.tl; omega
          have hpsz : (⟨P.toArray⟩ : ByteArray).size ≤ 200 := by show P.toArray.size ≤ 200; rw [List.size_toArray]; exact hpl
          have HPz : Hid ((⟨P.toArray⟩ : ByteArray) ++ ⟨#[decB K0]⟩ = ⟨(P ++ [decB K0]).toArray⟩) := arr_add P _
          have HYY := HM4.y
          simp only [List.length_cons] at HYY
          have hsS := HM4.hS
          have hsB := HM4.b.size
          have hHK := Lib.hid hK
          have hHz := Lib.hid hz
          clear hz hK
          obtain rfl | rfl | rfl | rfl : K0 = 0 ∨ K0 = 1 ∨ K0 = 2 ∨ K0 = 3 := by omega
          all_goals
            have hU0 : Utf8.encode 48 = ⟨#[48]⟩ := by rfl
            have hU1 : Utf8.encode 49 = ⟨#[49]⟩ := by rfl
            have hU2 : Utf8.encode 50 = ⟨#[50]⟩ := by rfl
            have hU3 : Utf8.encode 51 = ⟨#[51]⟩ := by rfl
            go_wp2_with (refine wp_load_Blk rfl _ _ rfl Y rfl HYY hu rfl pl_i ?_)
            refine (impl_choose S t1 hft.1 us1 s' _ hnx hHK.out (200 - m) g2 cap2 _ (by omega) HM4.t (by omega) (fun q hq => by have := hsS q hq; omega)).mono ?_
            rintro e w7 ⟨g3, cap3, rfl, hT7, hb7⟩
            have HB7 := HM4.x.grown hb7
            have HR := HM4.next hHz.out hHK.out hd2 ho2 hb7 hT7
            simp only [List.length_append] at HR
            clear hb7 hT7
            go_wp2_with (refine wp_store_Blk rfl _ _ _ rfl X rfl rfl HB7 pl_i rfl (by simp [Value.oneCell']) ?_)
            try simp only [Act.put]
            try go_wp2_with fail
            refine ⟨⟨_, _, _, _, os, P ++ [decB _], g3, cap3, rfl, by rw [← HPz.out]; rfl, HR⟩, ?_⟩
            simp only [szOf, ByteArray.size_append]
            show 201 - ((⟨P.toArray⟩ : ByteArray).size + 1) < _
            omega
    · have hV := best_leaf (p := p) (ang := false) (f := f') HM.run hpk os.data.toList P
      rw [HM.val] at hV
      have hb3 := HM.b
      obtain ⟨c0, c1, c2⟩ := HY.cell3
      clear HM
      cases fe with
      | pick => exact absurd rfl hpk
      | long => exact absurd rfl hnl2
      | done =>
        have HE : Hid (toldF R0.2.2 = ⟨#[100, 111, 110, 101]⟩ ∧ R0.2.1 = s' ∧ R0.1 = P) := by show _ ∧ _; rw [hV]; exact ⟨rfl, rfl, rfl⟩
        rw [show fwW (us, .done) = ⟨#[]⟩ from by cases us <;> rfl, show fwE .done = ⟨#[100, 111, 110, 101]⟩ from rfl]
        go_wp2_with (refine wp_store_BlkNew rfl _ _ _ rfl rfl rfl pl_i rfl (by simp [Value.oneCell']) ?_)
        go_region
        go_wp2_with fail
        go_ret3
        refine ⟨?_, below_step hb1 hb3.drew⟩
        rw [HE.out.1, HE.out.2.1, HE.out.2.2]; rfl
      | broke b =>
        cases b
        · skip
          have HE : Hid (toldF R0.2.2 = ⟨#[100, 101, 109, 111, 110]⟩ ∧ R0.2.1 = s' ∧ R0.1 = P) := by show _ ∧ _; rw [hV]; exact ⟨rfl, rfl, rfl⟩
          rw [show fwW (us, (.broke false)) = ⟨#[]⟩ from by cases us <;> rfl, show fwE (.broke false) = ⟨#[100, 101, 109, 111, 110]⟩ from rfl]
          go_wp2_with (refine wp_store_BlkNew rfl _ _ _ rfl rfl rfl pl_i rfl (by simp [Value.oneCell']) ?_)
          go_region
          go_wp2_with fail
          go_ret3
          refine ⟨?_, below_step hb1 hb3.drew⟩
          rw [HE.out.1, HE.out.2.1, HE.out.2.2]; rfl
        · skip
          have HE : Hid (toldF R0.2.2 = ⟨#[97, 110, 103, 101, 108]⟩ ∧ R0.2.1 = s' ∧ R0.1 = P) := by show _ ∧ _; rw [hV]; exact ⟨rfl, rfl, rfl⟩
          rw [show fwW (us, (.broke true)) = ⟨#[]⟩ from by cases us <;> rfl, show fwE (.broke true) = ⟨#[97, 110, 103, 101, 108]⟩ from rfl]
          go_wp2_with (refine wp_store_BlkNew rfl _ _ _ rfl rfl rfl pl_i rfl (by simp [Value.oneCell']) ?_)
          go_region
          go_wp2_with fail
          go_ret3
          refine ⟨?_, below_step hb1 hb3.drew⟩
          rw [HE.out.1, HE.out.2.1, HE.out.2.2]; rfl
theorem impl_BestPlay_true (t : Ct) (ht : t.WF) (hlen : t.len ≤ 200) (hfl : t.flat = true) (s : Nat) (hs : s < 4) (p : Int) (hp : C p) (others : ByteArray) (ho : others.size ≤ 4611686018427387904) (hd : digsOk others = true) (w : World) :
    Calls Tryz.prog 6 #[.string t.text, .int .i64 s, .int .i64 p, .string (whoN true), .string others] w (BestEnd (best p true (t.num + 1) s [t] others.data.toList []) w) := by
  obtain ⟨fs, hu⟩ := pl_u
  have HSO : Hid (stOk (s : Int) = true) := stOk_of hs
  have HCv : Hid (isC p = true) := isC_mk hp
  have HDG := Lib.hid (impl_digs others ho)
  have HC1 := Lib.hid (impl_count loopW t hlen)
  have HZ : Hid (t.cnt (inOps loopW) = 0) := (cnt_loop t).2 hfl
  have HDo := Lib.hid hd
  clear hd
  obtain ⟨R0, hR0⟩ : ∃ R, best p true (t.num + 1) s [t] others.data.toList [] = R := ⟨_, rfl⟩
  rw [hR0]
  have HR0 := Lib.hid hR0
  clear hR0
  rw [show whoN true = ⟨#[97, 110, 103, 101, 108]⟩ from rfl]
  go_enter Tryz.func6, Tryz.ntmps6
  go_wp2_with fail
  refine (impl_read t.text (szCtP hlen) _).mono ?_
  intro e w1 hA
  obtain ⟨b, rfl, hT, hb1⟩ := read_tree ht hlen hA
  clear hA
  go_wp2_with fail
  refine (HC1.out b _ _ hT).mono ?_
  rintro e w' ⟨rfl, rfl⟩
  rw [HZ.out, show ((0 : Nat) : Int) = 0 from rfl]
  go_wp2_with fail
  refine (impl_stateOk _ _).mono ?_
  rintro e w' ⟨rfl, rfl⟩
  rw [HSO.out]
  go_wp2_with fail
  refine (impl_ConditionValid _ _).mono ?_
  rintro e w' ⟨rfl, rfl⟩
  rw [HCv.out]
  go_wp2_with fail
  refine (HDG.out _).mono ?_
  rintro e w2 ⟨⟨r, rfl, hr0⟩, hb2⟩
  have hr := hr0.2 HDo.out
  clear hr0
  obtain rfl : r = ⟨#[]⟩ := by
    have : r.data.size = 0 := hr
    have h2 : r.data = #[] := Array.eq_empty_of_size_eq_zero this
    cases r; simp at h2; rw [h2]
  go_wp2_with fail
  refine (impl_start _ t b s _ (Tree.grown hb2 t b hT) (fun q hq => by have := hb2.size; omega)).mono ?_
  rintro e w3 ⟨g, rfl, hP3, hb3⟩
  have H0 := IB.start t ht hlen hfl s hs p true others ho HDo.out R0 HR0.out w1 w3 _ (fun q hq => hq) (below_step hb2 hb3) g hP3
  generalize (fun q => q < w1.heap.size) = S at *
  clear hb2 hb3 hP3 hT HDo HDG HC1 HZ HSO HR0 ho
  go_wp2_with (refine wp_store_BlkNew rfl _ _ _ rfl rfl rfl pl_i rfl (by simp [Value.oneCell']) ?_)
  generalize w3.alloc (Obj.cells #[.int .i64 s, .slice (some ⟨g, 0, none⟩) 1 1, .int .i64 0] 50) = W0 at *
  generalize w3.heap.size = X at *
  simp only [Act.put]
  go_loopw [4, 14] (fun q o wr => ∃ (n f s' : Nat) (ts : List Ct) (os : ByteArray) (P : List UInt8) (g cap : Nat), q = .string os ∧ o = .string ⟨P.toArray⟩ ∧ IB w1 wr S X R0 p true n f s' ts os P g cap) (fun _ o _ => 201 - szOf o)
  case atStart => exact ⟨200, _, s, [t], others, [], _, _, rfl, rfl, H0⟩
  case round =>
    clear H0 hs
    obtain ⟨n, f, s', ts, os, P, g, cap, rfl, rfl, H⟩ := hrel
    have HX := H.a
    have hlen2 := H.len
    have hn2 := H.hn
    go_wp2_with (refine wp_load_Blk rfl _ _ rfl X rfl HX hu rfl pl_i ?_)
    refine (impl_fwd S n s' H.hs H.hn ts H.fit (by omega) g cap wr H.t (fun q hq => by have := H.hS q hq; have := H.b.size; omega)).mono ?_
    rintro e w2 ⟨hb2, g2, cap2, he, hP2⟩
    obtain ⟨⟨m, us, fe⟩, hR⟩ : ∃ r, r = run n s' ts := ⟨_, rfl⟩
    rw [← hR] at hP2 he
    have he2 : e = .returned (.tuple #[.agg #[.int .i64 s', .slice (some ⟨g2, 0, none⟩) us.length cap2, .int .i64 ((200 - m : Nat))], .string (fwW (us, fe)), .string (fwE fe)]) := he
    subst he2
    clear he
    obtain ⟨f', rfl, hnl2, HM⟩ := H.mid hb2 hR.symm hP2
    clear hR H HX hP2 hb2 hlen2 hn2
    have HY := HM.y
    by_cases hpk : fe = .pick
    · subst hpk
      obtain ⟨t1, us1, hus, hnx, hne, -, -⟩ := run_pick (show run 200 s' ts = ((run 200 s' ts).1, us, .pick) by rw [← HM.run])
      subst hus
      have HWN : Hid (fwW (t1 :: us1, .pick) = whoN t1.who) := rfl
      have hft := HM.fit t1 (by simp)
      have hul : us1.length ≤ 900 := by have h1 := len_totB (t1 :: us1); have h2 := HM.tl; simp only [List.length_cons] at h1; omega
      have hol := opts_le t1 s'
      have hl0 : 0 < (t1.opts s').length := List.length_pos_iff.2 hne
      have hmm := HM.hm
      simp only [List.length_cons] at HY
      obtain ⟨K0, hK0⟩ : ∃ K, (t1.opts s').headD 0 = K := ⟨_, rfl⟩
      have hhd : (t1.opts s')[0]? = some K0 := by
        rw [← hK0]
        cases hq : t1.opts s' with
        | nil => exact absurd hq hne
        | cons a l => rfl
      have HK0 := Lib.hid hK0
      clear hK0
      cases hwho : t1.who
      all_goals
        first
        | rw [HWN.out, hwho, show fwE .pick = ⟨#[]⟩ from rfl, show whoN false = ⟨#[100, 101, 109, 111, 110]⟩ from rfl]
        | rw [HWN.out, hwho, show fwE .pick = ⟨#[]⟩ from rfl, show whoN true = ⟨#[97, 110, 103, 101, 108]⟩ from rfl]
        simp only [List.length_cons] at HM ⊢
        have hw2l : w2.heap.size = w2.heap.size := rfl
        go_wp2_with (first
          | (refine wp_store_BlkNew rfl _ _ _ rfl rfl rfl pl_i rfl (by simp [Value.oneCell']) ?_)
          | (refine wp_load_Blk rfl _ _ rfl w2.heap.size rfl HY hu rfl pl_i ?_))
        generalize w2.alloc (Obj.cells #[.int .i64 s', .slice (some ⟨g2, 0, none⟩) (us1.length + 1) cap2, .int .i64 ((200 - m : Nat))] 50) = w3 at *
        generalize w2.heap.size = Y at *
        refine (impl_choices S t1 hft.1 us1 s' HM.hs hnx (200 - m) g2 cap2 _ HM.t (by omega)).mono ?_
        rintro e w4 ⟨g4, cap4, rfl, hI4, hb4, -⟩
        have HM4 := HM.grown hb4
        clear HM HY hb4
        have hc0 := hI4.lies 0 K0 hhd
        have HHD := Lib.hid hhd
        have hmem : K0 ∈ t1.opts s' := List.mem_of_getElem? hhd
        clear hhd
      · skip
        by_cases hlt : 0 < os.size
        · have hoe : os.toList.isEmpty = false := by
            rw [ByteArray.toList_eq]
            cases hq : os.data.toList with
            | nil => rw [Lib.size_eq, hq] at hlt; simp at hlt
            | cons a l => rfl
          have hdg := digsOk_at os 0 hlt HM4.hd
          have hdg2 : 48 ≤ (bt os 0).toNat ∧ (bt os 0).toNat ≤ 57 := by simpa [digB] using hdg
          obtain ⟨j, hj, hje⟩ : ∃ j : Nat, j < (t1.opts s').length ∧ ((((bt os 0).toNat : Int) - 48) % ((t1.opts s').length : Nat)) = j := ⟨((bt os 0).toNat - 48) % (t1.opts s').length, Nat.mod_lt _ hl0, by push_cast [Int.ofNat_sub hdg2.1]; rfl⟩
          have hjn : ((bt os 0).toNat - 48) % (t1.opts s').length = j := by
            have h3 : (((bt os 0).toNat - 48 : Nat) : Int) = ((bt os 0).toNat : Int) - 48 := by omega
            rw [← h3] at hje
            exact_mod_cast hje
          have hji : (j : Int) < ((t1.opts s').length : Nat) := by omega
          have hgx : (t1.opts s')[j]? = some ((t1.opts s').getD j 0) := by rw [List.getD_eq_getElem?_getD, List.getElem?_eq_getElem hj]; rfl
          have hK : (t1.opts s').getD j 0 ∈ t1.opts s' := List.mem_of_getElem? hgx
          have hz0 : chz p true t1 us1 s' os.data.toList = ((t1.opts s').getD j 0, os.data.toList.drop 1) := by
            unfold chz
            have h0 := drop_bt os 0 hlt
            rw [List.drop_zero] at h0
            rw [hwho, if_neg (by decide), h0]
            show ((t1.opts s').getD (((bt os 0).toNat - 48) % (t1.opts s').length) 0, _) = _
            rw [hjn]; rfl
          have hcj := hI4.lies j _ hgx
          have ho2 : (⟨(os.data.toList.drop 1).toArray⟩ : ByteArray).size ≤ 4611686018427387904 := by
            have := HM4.ho
            rw [Lib.size_eq] at this ⊢
            simp only [List.length_drop]; omega
          have hd2 := digs_tail os HM4.hd
          have hosz := HM4.ho
          obtain ⟨K, hKd⟩ : ∃ K, (t1.opts s').getD j 0 = K := ⟨_, rfl⟩
          rw [hKd] at hK hz0 hcj
          have hz : chz p true t1 us1 s' os.data.toList = (K, (⟨(os.data.toList.drop 1).toArray⟩ : ByteArray).data.toList) := hz0
          clear hKd hdg hjn hgx hz0 hI4 HHD HK0
          have hKlt : K < 4 := opts_lt hK
          have hpl : P.length ≤ 200 := by have := HM4.tl; omega
          have hpsz : (⟨P.toArray⟩ : ByteArray).size ≤ 200 := by show P.toArray.size ≤ 200; rw [List.size_toArray]; exact hpl
          have HPz : Hid ((⟨P.toArray⟩ : ByteArray) ++ ⟨#[decB K]⟩ = ⟨(P ++ [decB K]).toArray⟩) := arr_add P _
          have HYY := HM4.y
          simp only [List.length_cons] at HYY
          have hsS := HM4.hS
          have hsB := HM4.b.size
          have hHK := Lib.hid hK
          have hHz := Lib.hid hz
          clear hz hK
          obtain rfl | rfl | rfl | rfl : K = 0 ∨ K = 1 ∨ K = 2 ∨ K = 3 := by omega
          all_goals
            have hU0 : Utf8.encode 48 = ⟨#[48]⟩ := by rfl
            have hU1 : Utf8.encode 49 = ⟨#[49]⟩ := by rfl
            have hU2 : Utf8.encode 50 = ⟨#[50]⟩ := by rfl
            have hU3 : Utf8.encode 51 = ⟨#[51]⟩ := by rfl
            go_wp2_with (refine wp_load_Blk rfl _ _ rfl Y rfl HYY hu rfl pl_i ?_)
            refine (impl_choose S t1 hft.1 us1 s' _ hnx hHK.out (200 - m) g2 cap2 _ (by omega) HM4.t (by omega) (fun q hq => by have := hsS q hq; omega)).mono ?_
            rintro e w7 ⟨g3, cap3, rfl, hT7, hb7⟩
            have HB7 := HM4.x.grown hb7
            have HR := HM4.next hHz.out hHK.out hd2 ho2 hb7 hT7
            simp only [List.length_append] at HR
            clear hb7 hT7
            go_wp2_with (refine wp_store_Blk rfl _ _ _ rfl X rfl rfl HB7 pl_i rfl (by simp [Value.oneCell']) ?_)
            try simp only [Act.put]
            try go_wp2_with fail
            refine ⟨⟨_, _, _, _, ⟨(os.data.toList.drop 1).toArray⟩, P ++ [decB _], g3, cap3, (by rw [ext_one]), by rw [← HPz.out]; rfl, HR⟩, ?_⟩
            simp only [szOf, ByteArray.size_append]
            show 201 - ((⟨P.toArray⟩ : ByteArray).size + 1) < _
            omega
        · have hoe : os.toList.isEmpty = true := by
            rw [ByteArray.toList_eq]
            cases hq : os.data.toList with
            | nil => rfl
            | cons a l => exfalso; apply hlt; rw [Lib.size_eq, hq]; simp
          have hnil : os.data.toList = [] := by rw [ByteArray.toList_eq] at hoe; exact List.isEmpty_iff.1 hoe
          have hK := hmem
          have hz : chz p true t1 us1 s' os.data.toList = (K0, os.data.toList) := by
            unfold chz
            rw [hwho, if_neg (by decide), hnil]
            show ((t1.opts s').headD 0, _) = _
            rw [HK0.out]
          have hd2 := HM4.hd
          have ho2 := HM4.ho
          clear hnil hI4 HHD HK0
          have hKlt : K0 < 4 := opts_lt hK
          have hpl : P.length ≤ 200 := by have := HM4.tl; omega
          have hpsz : (⟨P.toArray⟩ : ByteArray).size ≤ 200 := by show P.toArray.size ≤ 200; rw [List.size_toArray]; exact hpl
          have HPz : Hid ((⟨P.toArray⟩ : ByteArray) ++ ⟨#[decB K0]⟩ = ⟨(P ++ [decB K0]).toArray⟩) := arr_add P _
          have HYY := HM4.y
          simp only [List.length_cons] at HYY
          have hsS := HM4.hS
          have hsB := HM4.b.size
          have hHK := Lib.hid hK
          have hHz := Lib.hid hz
          clear hz hK
          obtain rfl | rfl | rfl | rfl : K0 = 0 ∨ K0 = 1 ∨ K0 = 2 ∨ K0 = 3 := by omega
          all_goals
            have hU0 : Utf8.encode 48 = ⟨#[48]⟩ := by rfl
            have hU1 : Utf8.encode 49 = ⟨#[49]⟩ := by rfl
            have hU2 : Utf8.encode 50 = ⟨#[50]⟩ := by rfl
            have hU3 : Utf8.encode 51 = ⟨#[51]⟩ := by rfl
            go_wp2_with (refine wp_load_Blk rfl _ _ rfl Y rfl HYY hu rfl pl_i ?_)
            refine (impl_choose S t1 hft.1 us1 s' _ hnx hHK.out (200 - m) g2 cap2 _ (by omega) HM4.t (by omega) (fun q hq => by have := hsS q hq; omega)).mono ?_
            rintro e w7 ⟨g3, cap3, rfl, hT7, hb7⟩
            have HB7 := HM4.x.grown hb7
            have HR := HM4.next hHz.out hHK.out hd2 ho2 hb7 hT7
            simp only [List.length_append] at HR
            clear hb7 hT7
            go_wp2_with (refine wp_store_Blk rfl _ _ _ rfl X rfl rfl HB7 pl_i rfl (by simp [Value.oneCell']) ?_)
            try simp only [Act.put]
            try go_wp2_with fail
            refine ⟨⟨_, _, _, _, os, P ++ [decB _], g3, cap3, rfl, by rw [← HPz.out]; rfl, HR⟩, ?_⟩
            simp only [szOf, ByteArray.size_append]
            show 201 - ((⟨P.toArray⟩ : ByteArray).size + 1) < _
            omega
      · skip
        go_wp2_with fail
        go_loopw [20, 80] (fun v i wr => v = .int .i64 (K0 : Nat) ∧ ∃ k : Nat, k ≤ (t1.opts s').length ∧ i = .int .i64 k ∧ Hid (∀ j y, j < k → (t1.opts s')[j]? = some y → (winAt p t1 us1 s' y == true) = false) ∧ IBM w1 wr S X Y #[.int .i64 s', .slice (some ⟨g, 0, none⟩) ts.length cap, .int .i64 ((200 - n : Nat))] R0 p true f' s' ts os P m (t1 :: us1) .pick g2 cap2 ∧ Ints wr g4 (t1.opts s')) (fun _ i _ => (t1.opts s').length - (intOf i).toNat)
        case atStart => exact ⟨rfl, 0, by omega, rfl, (fun j y hj => by omega), HM4, hI4⟩
        case round =>
          clear HM4 hI4 hc0
          obtain ⟨rfl, k, hk, rfl, HK, HM5, hI5⟩ := hrel
          have HY5 := HM5.y
          simp only [List.length_cons] at HY5
          by_cases hlt : k < (t1.opts s').length
          · have hki : (k : Int) < ((t1.opts s').length : Nat) := by omega
            obtain ⟨K, hx⟩ : ∃ x, (t1.opts s')[k]? = some x := ⟨_, List.getElem?_eq_getElem hlt⟩
            have hc := hI5.lies k K hx
            have hK := List.mem_of_getElem? hx
            have HX5 := Lib.hid hx
            clear hx
            go_wp2_with (refine wp_load_Blk rfl _ _ rfl Y rfl HY5 hu rfl pl_i ?_)
            refine (impl_choose S t1 hft.1 us1 s' K hnx hK (200 - m) g2 cap2 _ (by omega) HM5.t (by omega) (fun q hq => by have := HM5.hS q hq; have := HM5.b.size; omega)).mono ?_
            rintro e w5 ⟨g5, cap5, rfl, hP5, hb5⟩
            have hfc := fit_chose HM5.fit s' K
            have HM6 := HM5.grown hb5
            have hI6 := hI5.grown hb5
            have hfl6 := hfc.2
            clear HM5 hI5 HY5 hb5 hc
            go_wp2_with fail
            refine (impl_wins S _ hfc.1 _ (chose_lt HM6.hs hK) p hp _ List.length_append (by omega) g5 cap5 _ _ hP5).mono ?_
            rintro e w6 ⟨rfl, hb6⟩
            have HM7 := HM6.grown hb6
            have hI7 := hI6.grown hb6
            clear HM6 hI6 hb6 hP5
            obtain ⟨V, hV⟩ : ∃ V, has (semL ((t1.chose s' K).2 ++ us1) p) (t1.chose s' K).1 = V := ⟨_, rfl⟩
            rw [hV]
            have HW : Hid (winAt p t1 us1 s' K = V) := hV
            clear hV
            cases V
            · have HK2 : Hid (∀ j y, j < k + 1 → (t1.opts s')[j]? = some y → (winAt p t1 us1 s' y == true) = false) := fun j y hj hy => by
                rcases Nat.lt_or_ge j k with h | h
                · exact HK.out j y h hy
                · obtain rfl : j = k := by omega
                  have := HX5.out.symm.trans hy
                  cases this
                  rw [HW.out]; rfl
              go_wp2_with fail
              go_roundw
              case rel => exact ⟨rfl, k + 1, by omega, by go_num, HK2, HM7, hI7⟩
              case measure => simp [intOf]; omega

            · have hz : chz p true t1 us1 s' os.data.toList = (K, os.data.toList) := by
                unfold chz
                rw [hwho, if_pos (by decide)]
                unfold pickOf
                rw [find_at _ _ k K HX5.out (by rw [HW.out]; rfl) (fun j y hj hy => HK.out j y hj hy)]; rfl
              have hd2 := HM7.hd
              have ho2 := HM7.ho
              clear HK HX5 hI7 HW
              have hKlt : K < 4 := opts_lt hK
              have hpl : P.length ≤ 200 := by have := HM7.tl; omega
              have hpsz : (⟨P.toArray⟩ : ByteArray).size ≤ 200 := by show P.toArray.size ≤ 200; rw [List.size_toArray]; exact hpl
              have HPz : Hid ((⟨P.toArray⟩ : ByteArray) ++ ⟨#[decB K]⟩ = ⟨(P ++ [decB K]).toArray⟩) := arr_add P _
              have HYY := HM7.y
              simp only [List.length_cons] at HYY
              have hsS := HM7.hS
              have hsB := HM7.b.size
              have hHK := Lib.hid hK
              have hHz := Lib.hid hz
              clear hz hK
              obtain rfl | rfl | rfl | rfl : K = 0 ∨ K = 1 ∨ K = 2 ∨ K = 3 := by omega
              all_goals
                have hU0 : Utf8.encode 48 = ⟨#[48]⟩ := by rfl
                have hU1 : Utf8.encode 49 = ⟨#[49]⟩ := by rfl
                have hU2 : Utf8.encode 50 = ⟨#[50]⟩ := by rfl
                have hU3 : Utf8.encode 51 = ⟨#[51]⟩ := by rfl
                go_wp2_with (refine wp_load_Blk rfl _ _ rfl Y rfl HYY hu rfl pl_i ?_)
                refine (impl_choose S t1 hft.1 us1 s' _ hnx hHK.out (200 - m) g2 cap2 _ (by omega) HM7.t (by omega) (fun q hq => by have := hsS q hq; omega)).mono ?_
                rintro e w7 ⟨g3, cap3, rfl, hT7, hb7⟩
                have HB7 := HM7.x.grown hb7
                have HR := HM7.next hHz.out hHK.out hd2 ho2 hb7 hT7
                simp only [List.length_append] at HR
                clear hb7 hT7
                go_wp2_with (refine wp_store_Blk rfl _ _ _ rfl X rfl rfl HB7 pl_i rfl (by simp [Value.oneCell']) ?_)
                try simp only [Act.put]
                try go_wp2_with fail
                refine ⟨⟨_, _, _, _, os, P ++ [decB _], g3, cap3, rfl, by rw [← HPz.out]; rfl, HR⟩, ?_⟩
                simp only [szOf, ByteArray.size_append]
                show 201 - ((⟨P.toArray⟩ : ByteArray).size + 1) < _
                omega
          · obtain rfl : k = (t1.opts s').length := by omega
            have hz : chz p true t1 us1 s' os.data.toList = (K0, os.data.toList) := by
              unfold chz
              rw [hwho, if_pos (by decide)]
              unfold pickOf
              rw [List.find?_eq_none.2 (fun y hy => by
                obtain ⟨j, hj, rfl⟩ := List.getElem_of_mem hy
                have := HK.out j _ hj (List.getElem?_eq_getElem hj)
                simpa using this), HK0.out]; rfl
            have hK := hmem
            have hd2 := HM5.hd
            have ho2 := HM5.ho
            clear HK hlt HY5 hI5
            have hKlt : K0 < 4 := opts_lt hK
            have hpl : P.length ≤ 200 := by have := HM5.tl; omega
            have hpsz : (⟨P.toArray⟩ : ByteArray).size ≤ 200 := by show P.toArray.size ≤ 200; rw [List.size_toArray]; exact hpl
            have HPz : Hid ((⟨P.toArray⟩ : ByteArray) ++ ⟨#[decB K0]⟩ = ⟨(P ++ [decB K0]).toArray⟩) := arr_add P _
            have HYY := HM5.y
            simp only [List.length_cons] at HYY
            have hsS := HM5.hS
            have hsB := HM5.b.size
            have hHK := Lib.hid hK
            have hHz := Lib.hid hz
            clear hz hK
            obtain rfl | rfl | rfl | rfl : K0 = 0 ∨ K0 = 1 ∨ K0 = 2 ∨ K0 = 3 := by omega
            all_goals
              have hU0 : Utf8.encode 48 = ⟨#[48]⟩ := by rfl
              have hU1 : Utf8.encode 49 = ⟨#[49]⟩ := by rfl
              have hU2 : Utf8.encode 50 = ⟨#[50]⟩ := by rfl
              have hU3 : Utf8.encode 51 = ⟨#[51]⟩ := by rfl
              go_wp2_with (refine wp_load_Blk rfl _ _ rfl Y rfl HYY hu rfl pl_i ?_)
              refine (impl_choose S t1 hft.1 us1 s' _ hnx hHK.out (200 - m) g2 cap2 _ (by omega) HM5.t (by omega) (fun q hq => by have := hsS q hq; omega)).mono ?_
              rintro e w7 ⟨g3, cap3, rfl, hT7, hb7⟩
              have HB7 := HM5.x.grown hb7
              have HR := HM5.next hHz.out hHK.out hd2 ho2 hb7 hT7
              simp only [List.length_append] at HR
              clear hb7 hT7
              go_wp2_with (refine wp_store_Blk rfl _ _ _ rfl X rfl rfl HB7 pl_i rfl (by simp [Value.oneCell']) ?_)
              try simp only [Act.put]
              try go_wp2_with fail
              refine ⟨⟨_, _, _, _, os, P ++ [decB _], g3, cap3, rfl, by rw [← HPz.out]; rfl, HR⟩, ?_⟩
              simp only [szOf, ByteArray.size_append]
              show 201 - ((⟨P.toArray⟩ : ByteArray).size + 1) < _
              omega
    · have hV := best_leaf (p := p) (ang := true) (f := f') HM.run hpk os.data.toList P
      rw [HM.val] at hV
      have hb3 := HM.b
      obtain ⟨c0, c1, c2⟩ := HY.cell3
      clear HM
      cases fe with
      | pick => exact absurd rfl hpk
      | long => exact absurd rfl hnl2
      | done =>
        have HE : Hid (toldF R0.2.2 = ⟨#[100, 111, 110, 101]⟩ ∧ R0.2.1 = s' ∧ R0.1 = P) := by show _ ∧ _; rw [hV]; exact ⟨rfl, rfl, rfl⟩
        rw [show fwW (us, .done) = ⟨#[]⟩ from by cases us <;> rfl, show fwE .done = ⟨#[100, 111, 110, 101]⟩ from rfl]
        go_wp2_with (refine wp_store_BlkNew rfl _ _ _ rfl rfl rfl pl_i rfl (by simp [Value.oneCell']) ?_)
        go_region
        go_wp2_with fail
        go_ret3
        refine ⟨?_, below_step hb1 hb3.drew⟩
        rw [HE.out.1, HE.out.2.1, HE.out.2.2]; rfl
      | broke b =>
        cases b
        · skip
          have HE : Hid (toldF R0.2.2 = ⟨#[100, 101, 109, 111, 110]⟩ ∧ R0.2.1 = s' ∧ R0.1 = P) := by show _ ∧ _; rw [hV]; exact ⟨rfl, rfl, rfl⟩
          rw [show fwW (us, (.broke false)) = ⟨#[]⟩ from by cases us <;> rfl, show fwE (.broke false) = ⟨#[100, 101, 109, 111, 110]⟩ from rfl]
          go_wp2_with (refine wp_store_BlkNew rfl _ _ _ rfl rfl rfl pl_i rfl (by simp [Value.oneCell']) ?_)
          go_region
          go_wp2_with fail
          go_ret3
          refine ⟨?_, below_step hb1 hb3.drew⟩
          rw [HE.out.1, HE.out.2.1, HE.out.2.2]; rfl
        · skip
          have HE : Hid (toldF R0.2.2 = ⟨#[97, 110, 103, 101, 108]⟩ ∧ R0.2.1 = s' ∧ R0.1 = P) := by show _ ∧ _; rw [hV]; exact ⟨rfl, rfl, rfl⟩
          rw [show fwW (us, (.broke true)) = ⟨#[]⟩ from by cases us <;> rfl, show fwE (.broke true) = ⟨#[97, 110, 103, 101, 108]⟩ from rfl]
          go_wp2_with (refine wp_store_BlkNew rfl _ _ _ rfl rfl rfl pl_i rfl (by simp [Value.oneCell']) ?_)
          go_region
          go_wp2_with fail
          go_ret3
          refine ⟨?_, below_step hb1 hb3.drew⟩
          rw [HE.out.1, HE.out.2.1, HE.out.2.2]; rfl
end Go.Proofs.YtaeibhpkcikaaaaGreatDoor
