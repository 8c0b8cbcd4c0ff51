/- Contracts: the reference's heads, parts and transformers of contracts (printed by mk5c.py). -/
import Derived.Test.YtaeibhpkcikaaaaGreatDoorGJ
import Derived.Test.YtaeibhpkcikaaaaGreatDoorGF
import Derived.Test.YtaeibhpkcikaaaaGreatDoorSpF
namespace Go.Proofs.YtaeibhpkcikaaaaGreatDoor
set_option linter.unusedVariables false
set_option linter.unusedSimpArgs false
open Go.RowKit Go.Shelf
set_option maxRecDepth 100000
set_option maxHeartbeats 1000000

theorem string_info3 : (Tryz.prog.info? 9).map (fun i => (i.zero, i.size, i.bytes)) = some (some (.string ⟨#[]⟩), 1, 16) := by kernel_rfl
theorem op_text (t : Ct) : bt t.text 0 = t.op := (lies_text t).op
theorem spec_l5Head (t : Ct) (ht : t.WF) (w : World) : Calls Tryz.prog 75 #[.string t.text] w fun e w' => e = .returned (.int .i64 ((1 + t.ds.length : Nat) : Int)) ∧ w = w' := by
  have hop := op_text t
  have hsz : 0 < t.text.size := by rw [t.text_size]; exact t.len_pos
  have hs := ht.shape
  have hn : t.nparts = 0 ∨ t.nparts = 1 ∨ t.nparts = 2 := by cases t <;> simp [Ct.nparts]
  rcases hn with hn | hn | hn
  · rw [hn] at hs
    rcases shp0 hs with ⟨h | h | h, hn0⟩ | ⟨h | h, hn0⟩ | ⟨h | h, hn0⟩
    · have hb : ((bt t.text 0).toNat : Int) = 115 := by rw [hop, h]; rfl
      have HN := Lib.hid hn0
      clear hop hs hn h hn0
      go_enter Tryz.func75, Tryz.ntmps75
      go_wp2_with fail
      go_ret
      exact ⟨ret_int (by rw [HN.out]; rfl), rfl⟩
    · have hb : ((bt t.text 0).toNat : Int) = 97 := by rw [hop, h]; rfl
      have HN := Lib.hid hn0
      clear hop hs hn h hn0
      go_enter Tryz.func75, Tryz.ntmps75
      go_wp2_with fail
      go_ret
      exact ⟨ret_int (by rw [HN.out]; rfl), rfl⟩
    · have hb : ((bt t.text 0).toNat : Int) = 109 := by rw [hop, h]; rfl
      have HN := Lib.hid hn0
      clear hop hs hn h hn0
      go_enter Tryz.func75, Tryz.ntmps75
      go_wp2_with fail
      go_ret
      exact ⟨ret_int (by rw [HN.out]; rfl), rfl⟩
    · have hb : ((bt t.text 0).toNat : Int) = 33 := by rw [hop, h]; rfl
      have HN := Lib.hid hn0
      clear hop hs hn h hn0
      go_enter Tryz.func75, Tryz.ntmps75
      go_wp2_with fail
      go_ret
      exact ⟨ret_int (by rw [HN.out]; rfl), rfl⟩
    · have hb : ((bt t.text 0).toNat : Int) = 63 := by rw [hop, h]; rfl
      have HN := Lib.hid hn0
      clear hop hs hn h hn0
      go_enter Tryz.func75, Tryz.ntmps75
      go_wp2_with fail
      go_ret
      exact ⟨ret_int (by rw [HN.out]; rfl), rfl⟩
    · have hb : ((bt t.text 0).toNat : Int) = 65 := by rw [hop, h]; rfl
      have HN := Lib.hid hn0
      clear hop hs hn h hn0
      go_enter Tryz.func75, Tryz.ntmps75
      go_wp2_with fail
      go_ret
      exact ⟨ret_int (by rw [HN.out]; rfl), rfl⟩
    · have hb : ((bt t.text 0).toNat : Int) = 68 := by rw [hop, h]; rfl
      have HN := Lib.hid hn0
      clear hop hs hn h hn0
      go_enter Tryz.func75, Tryz.ntmps75
      go_wp2_with fail
      go_ret
      exact ⟨ret_int (by rw [HN.out]; rfl), rfl⟩
  · rw [hn] at hs
    rcases shp1 hs with ⟨h, hn0⟩ | ⟨h | h, hn0⟩
    · have hb : ((bt t.text 0).toNat : Int) = 119 := by rw [hop, h]; rfl
      have HN := Lib.hid hn0
      clear hop hs hn h hn0
      go_enter Tryz.func75, Tryz.ntmps75
      go_wp2_with fail
      go_ret
      exact ⟨ret_int (by rw [HN.out]; rfl), rfl⟩
    · have hb : ((bt t.text 0).toNat : Int) = 42 := by rw [hop, h]; rfl
      have HN := Lib.hid hn0
      clear hop hs hn h hn0
      go_enter Tryz.func75, Tryz.ntmps75
      go_wp2_with fail
      go_ret
      exact ⟨ret_int (by rw [HN.out]; rfl), rfl⟩
    · have hb : ((bt t.text 0).toNat : Int) = 43 := by rw [hop, h]; rfl
      have HN := Lib.hid hn0
      clear hop hs hn h hn0
      go_enter Tryz.func75, Tryz.ntmps75
      go_wp2_with fail
      go_ret
      exact ⟨ret_int (by rw [HN.out]; rfl), rfl⟩
  · rw [hn] at hs
    rcases shp2 hs with ⟨h | h | h, hn0⟩ | ⟨h, hn0⟩
    · have hb : ((bt t.text 0).toNat : Int) = 59 := by rw [hop, h]; rfl
      have HN := Lib.hid hn0
      clear hop hs hn h hn0
      go_enter Tryz.func75, Tryz.ntmps75
      go_wp2_with fail
      go_ret
      exact ⟨ret_int (by rw [HN.out]; rfl), rfl⟩
    · have hb : ((bt t.text 0).toNat : Int) = 38 := by rw [hop, h]; rfl
      have HN := Lib.hid hn0
      clear hop hs hn h hn0
      go_enter Tryz.func75, Tryz.ntmps75
      go_wp2_with fail
      go_ret
      exact ⟨ret_int (by rw [HN.out]; rfl), rfl⟩
    · have hb : ((bt t.text 0).toNat : Int) = 124 := by rw [hop, h]; rfl
      have HN := Lib.hid hn0
      clear hop hs hn h hn0
      go_enter Tryz.func75, Tryz.ntmps75
      go_wp2_with fail
      go_ret
      exact ⟨ret_int (by rw [HN.out]; rfl), rfl⟩
    · have hb : ((bt t.text 0).toNat : Int) = 105 := by rw [hop, h]; rfl
      have HN := Lib.hid hn0
      clear hop hs hn h hn0
      go_enter Tryz.func75, Tryz.ntmps75
      go_wp2_with fail
      go_ret
      exact ⟨ret_int (by rw [HN.out]; rfl), rfl⟩

def strs (l : List Ct) : List Value := l.map fun x => .string x.text
/-- a slice of the texts of contracts -/
def TextsAt (w : World) (g : Nat) (l : List Ct) : Prop := ∀ (j : Nat) (x : Ct), l[j]? = some x → w.cell? ⟨g, j, none⟩ = some (.string x.text)
theorem TextsAt.grown {w w' : World} {g : Nat} {l : List Ct} (h : TextsAt w g l) (hb : Below w.heap.size w w') : TextsAt w' g l := fun j x hj => cell_grown (h j x hj) hb
theorem owned_texts {w : World} {base : Nat} {e : TypeId} {v : Value} {l : List Ct} (h : w.ownsRow base e 1 v l.length (strs l)) (hne : v ≠ .slice none 0 0) :
    ∃ g cap, v = .slice (some ⟨g, 0, none⟩) l.length cap ∧ TextsAt w g l := by
  rcases h.2 with ⟨rfl, _⟩ | ⟨g, cap, cur, rfl, _⟩
  · exact absurd rfl hne
  · refine ⟨g, cap, rfl, fun j x hj => ?_⟩
    have h1 := World.ownsRow.cells h (g := g) rfl j (.string x.text) (by simp [strs, hj])
    have h2 : (⟨g, 0, none⟩ : Addr).add j = ⟨g, j, none⟩ := by unfold Addr.add; split <;> simp_all
    rwa [h2] at h1

theorem spec_l5Parts (t : Ct) (ht : t.WF) (hlen : t.len ≤ 200) (w : World) :
    Calls Tryz.prog 52 #[.string t.text] w fun e w' => (∃ g cap, e = .returned (.slice (some ⟨g, 0, none⟩) t.parts.length cap) ∧ TextsAt w' g t.parts) ∧ Below w.heap.size w w' := by
  obtain ⟨i0, hi, hz0, hz1, hz2⟩ := info_parts string_info3
  have hw0 : (w.alloc (Obj.cells #[] 9)).ownsRow w.heap.size 9 1 (.slice (some ⟨w.heap.size, 0, none⟩) 0 0) 0 [] := World.ownsRow_made w #[] 0 (Nat.le_refl _) (by decide) rfl
  have hb0 : Below w.heap.size w (w.alloc (Obj.cells #[] 9)) := below_new (Below.refl _ _) _
  have hsz := t.text_size
  have h31 : t.text.size ≤ 2147483648 := by omega
  have hlp := t.len_parts
  go_enter Tryz.func52, Tryz.ntmps52
  go_wp2_with fail
  refine (spec_l5Head t ht _).mono ?_
  rintro e w' ⟨rfl, rfl⟩
  go_wp2_with fail
  go_loopw [3, 4, 5] (fun v i _ wr => ∃ us vs : List Ct, t.parts = us ++ vs ∧ i = .int .i64 ((1 + t.ds.length + sumLen us : Nat) : Int) ∧ wr.ownsRow w.heap.size 9 1 v us.length (strs us) ∧ v ≠ .slice none 0 0 ∧ Below w.heap.size w wr) (fun _ i _ _ => t.len - (intOf i).toNat)
  case atStart => exact ⟨[], t.parts, rfl, by simp [sumLen], hw0, by simp, hb0⟩
  case round =>
    obtain ⟨us, vs, hpv, rfl, hown, hne, hb⟩ := hrel
    clear hw0 hb0
    have hul : us.length ≤ 2 := by have := t.parts_le; rw [hpv] at this; simp at this; omega
    cases vs with
    | nil =>
      have hpe : t.parts = us := by simpa using hpv
      have hend : 1 + t.ds.length + sumLen us = t.text.size := by rw [hsz, hlp, hpe]
      have hend' : ((1 + t.ds.length + sumLen us : Nat) : Int) = (t.text.size : Int) := by rw [hend]
      have HP := Lib.hid hpe
      rw [hend']
      clear hend hend' hpv hpe hlp
      go_wp2_with fail
      obtain ⟨g, cap, rfl, hg⟩ := owned_texts hown hne
      go_ret
      rw [HP.out]
      exact ⟨⟨g, cap, rfl, hg⟩, hb⟩
    | cons x vs =>
      have hl := (lies_text t).split hpv
      rw [Nat.zero_add] at hl
      have hx : x.WF := t.parts_wf ht x (by rw [hpv]; simp)
      have hsx := hl.size
      have hxp := x.len_pos
      have hext := Lib.hid (extract_lies hl)
      have hlt : ((1 + t.ds.length + sumLen us : Nat) : Int) < (t.text.size : Int) := by omega
      have hle : 1 + t.ds.length + sumLen us + x.len ≤ t.text.size := hsx
      generalize ha : 1 + t.ds.length + sumLen us = a at *
      have HA := Lib.hid ha
      have HPV := Lib.hid hpv
      clear hlp ha hsx hpv
      go_wp2_with fail
      refine (spec_l5End_yes t.text h31 x hx a _ _ rfl hl).mono ?_
      rintro e w' ⟨rfl, rfl⟩
      have q1 : (a : Int) ≤ ((a + x.len : Nat) : Int) := by omega
      have q2 : ((a + x.len : Nat) : Int) ≤ (t.text.size : Int) := by omega
      go_wp2_with (first
        | (at_builtin; refine wpList_append_own _ rfl _ _ _ rfl w.heap.size 9 i0 (.string ⟨#[]⟩) 1 16 (by kernel_rfl) hi hz0 hz1 hz2 rfl (by decide) _ _ _ rfl (hown.alloc _) ⟨wr.heap.size, 0, none⟩ 1 1 [.string x.text] rfl rfl ?c1 ?c2 ?c3 ?c4 ?c5 ?_)
        | go_in)
      case c1 =>
        intro j y hj
        match j, hj with
        | 0, hj => simp at hj; subst hj; simp [Addr.add, hext.out]
      case c2 => intro y hy; simp at hy; subst hy; rfl
      case c3 => unfold maxLen; omega
      case c4 => omega
      case c5 => have := hb.size; simp; omega
      intro v' w1 hown' hgrow hnil
      have hb' : Below w.heap.size w w1 := (below_new hb _).grown hgrow (by have := hb.size; simp; omega) (fun k hk => (hown.lt k hk).1)
      have e9 : strs us ++ [.string x.text] = strs (us ++ [x]) := by simp [strs]
      rw [e9] at hown'
      go_wp2_with fail
      go_roundw
      case rel => exact ⟨us ++ [x], vs, by rw [HPV.out]; simp, by have := HA.out; rw [sumLen_app]; simp [sumLen]; omega, by rw [List.length_append]; exact hown', by simpa using hnil, hb'⟩
      case measure => simp [intOf]; omega

theorem spec_l5Turn (o : UInt8) (d : List Int) (x : Ct) (ht : (Ct.n1 o d x).WF) (b q : Int) (w : World) :
    Calls Tryz.prog 120 #[.string (Ct.n1 o d x).text, .int .i64 b, .int .i64 q] w fun e w' => e = .returned (.int .i64 (turnV o (dsF d 0) b q)) ∧ w = w' := by
  have hop := op_text (Ct.n1 o d x)
  have hsz : (Ct.n1 o d x).text.size = 1 + d.length + x.len := by rw [Ct.text_size, Ct.len1]
  have hxp := x.len_pos
  have hdig := (lies_text (Ct.n1 o d x)).hx ht
  rcases shp1 ht.1.1 with ⟨rfl, hn0⟩ | ⟨rfl | rfl, hn0⟩
  · have hb : ((bt (Ct.n1 119 d x).text 0).toNat : Int) = 119 := by rw [hop]; rfl
    have h0 : 0 < (Ct.n1 119 d x).text.size := by omega
    have h1 : 1 < (Ct.n1 119 d x).text.size := by omega
    have HD : Hid (hx (bt (Ct.n1 119 d x).text 1) = dsF d 0) := by
      have := hdig 0 (by rw [show (Ct.n1 119 d x).ds.length = 1 from hn0]; decide)
      exact this
    clear hdig hop hsz ht hn0
    go_enter Tryz.func120, Tryz.ntmps120
    go_wp2_with fail
    refine (spec_l2Hex _ _).mono ?_
    rintro e w' ⟨rfl, rfl⟩
    go_wp2_with fail
    go_ret
    rw [HD.out]
    exact ⟨rfl, rfl⟩
  · have hb : ((bt (Ct.n1 42 d x).text 0).toNat : Int) = 42 := by rw [hop]; rfl
    have h0 : 0 < (Ct.n1 42 d x).text.size := by omega
    have h1 : 1 < (Ct.n1 42 d x).text.size := by omega
    clear hdig hop hsz ht hn0
    go_enter Tryz.func120, Tryz.ntmps120
    go_wp2_with fail
    go_ret
    exact ⟨rfl, rfl⟩
  · have hb : ((bt (Ct.n1 43 d x).text 0).toNat : Int) = 43 := by rw [hop]; rfl
    have h0 : 0 < (Ct.n1 43 d x).text.size := by omega
    have h1 : 1 < (Ct.n1 43 d x).text.size := by omega
    clear hdig hop hsz ht hn0
    go_enter Tryz.func120, Tryz.ntmps120
    go_wp2_with fail
    go_ret
    exact ⟨rfl, rfl⟩

/-- how many turns are left at most -/
def mes (y b : Int) : Nat := if b = y then 0 else 5 - cnt y
theorem spec_l5Loop (o : UInt8) (d : List Int) (x : Ct) (ht : (Ct.n1 o d x).WF) (f : Nat → Int) (hf : Mon f) (w : World) :
    Calls Tryz.prog 106 #[.string (Ct.n1 o d x).text, .string (txt 16 f)] w fun e w' => e = .returned (.string (txt 16 fun q => lfp fun y => turnV o (dsF d 0) (f y.toNat) q)) ∧ w = w' := by
  have HO : Hid (okTxt 16 (txt 16 f) = true) := hid_txt hf.ok
  have hp : C (dsF d 0) := dsF_c ht.1.2 0
  generalize hT : (Ct.n1 o d x).text = T
  have hturn : ∀ (b q : Int) (w : World), Calls Tryz.prog 120 #[.string T, .int .i64 b, .int .i64 q] w fun e w' => e = .returned (.int .i64 (turnV o (dsF d 0) b q)) ∧ w = w' := by
    rw [← hT]; exact fun b q w => spec_l5Turn o d x ht b q w
  clear hT ht
  go_enter Tryz.func106, Tryz.ntmps106
  go_wp2_with fail
  go_loop [5, 6, 7, 8] (fun out i _ _ => ∃ k : Nat, k ≤ 16 ∧ i = .int .i64 k ∧ out = .string (txt k fun q => lfp fun y => turnV o (dsF d 0) (f y.toNat) q)) (fun _ i _ _ => 16 - (intOf i).toNat)
  case atStart => exact ⟨0, by omega, rfl, rfl⟩
  case round =>
    obtain ⟨k, hk, rfl, rfl⟩ := hrel
    by_cases hlt : k < 16
    · have ek : decide ((k : Int) < 16) = true := by rw [decide_eq_true_eq]; omega
      have HM := Lib.hid (turn_mon (o := o) hp hf (c_nat hlt))
      go_wp2_with fail
      go_loop [7, 8] (fun y b => ∃ (n : Nat) (z : Int), y = .int .i64 (iter (fun y => turnV o (dsF d 0) (f y.toNat) k) n 0) ∧ b = .int .i64 z ∧ (n = 0 ∧ z = -1 ∨ ∃ m, n = m + 1 ∧ z = iter (fun y => turnV o (dsF d 0) (f y.toNat) k) m 0)) (fun y b => mes (intOf y) (intOf b))
      case atStart => exact ⟨0, -1, rfl, rfl, .inl ⟨rfl, rfl⟩⟩
      case round =>
        obtain ⟨n, z, rfl, rfl, hz⟩ := hrel
        have hC := iter_ok HM.out n
        have hcn := cnt_le (iter (fun y => turnV o (dsF d 0) (f y.toNat) k) n 0)
        have HS : Hid (iter (fun y => turnV o (dsF d 0) (f y.toNat) k) (n + 1) 0 = turnV o (dsF d 0) (f (iter (fun y => turnV o (dsF d 0) (f y.toNat) k) n 0).toNat) k) := rfl
        have HZ := Lib.hid hz
        clear hz
        cases he : (z != iter (fun y => turnV o (dsF d 0) (f y.toNat) k) n 0)
        · have hez : z = iter (fun y => turnV o (dsF d 0) (f y.toNat) k) n 0 := by simpa using he
          have HF : Hid (iter (fun y => turnV o (dsF d 0) (f y.toNat) k) n 0 = lfp fun y => turnV o (dsF d 0) (f y.toNat) k) := by
            show _ = _
            rcases HZ.out with ⟨h0, h1⟩ | ⟨m, h0, h1⟩
            · rw [hez] at h1; have := hC.1; omega
            · rw [hez] at h1
              have hC' := lfp_eq HM.out (n := m) (by subst h0; exact h1)
              rw [h1]; exact hC'
          have HC := Lib.hid (lfp_ok HM.out)
          clear hez hcn
          go_wp2_with fail
          rw [HF.out]
          refine (spec_l2Digit _ _ HC.out.1 HC.out.2).mono ?_
          rintro e w' ⟨rfl, rfl⟩
          go_wp2_with fail
          go_round
          case rel => exact ⟨k + 1, by omega, by go_num, congrArg Value.string (txt_succ k fun q => lfp fun y => turnV o (dsF d 0) (f y.toNat) q)⟩
          case measure => simp [intOf]; omega
        · have HE := Lib.hid he
          go_wp2_with fail
          refine (spec_l3ValueI _ _ _ HO hC).mono ?_
          rintro e w' ⟨rfl, rfl⟩
          rw [eq16_txt hf.ok _ (lt16 hC)]
          go_wp2_with fail
          refine (hturn _ _ _).mono ?_
          rintro e w' ⟨rfl, rfl⟩
          go_wp2_with fail
          go_round
          case rel => exact ⟨n + 1, _, by rw [HS.out], rfl, .inr ⟨n, rfl, rfl⟩⟩
          case measure =>
            have hne : ¬ z = iter (fun y => turnV o (dsF d 0) (f y.toNat) k) n 0 := by have := HE.out; simpa using this
            rw [← HS.out]
            show mes (iter (fun y => turnV o (dsF d 0) (f y.toNat) k) (n + 1) 0) (iter (fun y => turnV o (dsF d 0) (f y.toNat) k) n 0) < mes (iter (fun y => turnV o (dsF d 0) (f y.toNat) k) n 0) z
            have hup := iter_up HM.out n
            have hlt2 := cnt_lt hC (iter_ok HM.out (n + 1)) hup
            have hle2 := cnt_le (iter (fun y => turnV o (dsF d 0) (f y.toNat) k) (n + 1) 0)
            unfold mes
            rw [if_neg hne]
            by_cases e2 : iter (fun y => turnV o (dsF d 0) (f y.toNat) k) n 0 = iter (fun y => turnV o (dsF d 0) (f y.toNat) k) (n + 1) 0
            · rw [if_pos e2]; omega
            · rw [if_neg e2]; have := hlt2 e2; omega
    · obtain rfl : k = 16 := by omega
      go_wp2_with fail
      go_ret
      exact ⟨rfl, rfl⟩
end Go.Proofs.YtaeibhpkcikaaaaGreatDoor
