/- Contracts: the drawing of kinds of transformers and of views. -/
import Derived.Test.YtfeaeabhnkehcaaDraw2
namespace Go.Proofs.Ytfeaeabhnkehcaa
set_option linter.unusedVariables false
set_option linter.unusedSimpArgs false
open Go.RowKit Go.Shelf
set_option maxRecDepth 100000
set_option maxHeartbeats 1000000

theorem spec_l4Spec (x : Nat) (hx : x < 16) (r : ByteArray) (w : World) (H : Hid (okTxt 4 r = true)) :
    Calls Try.prog 134 #[.int .i64 x, .string r] w fun e w' => (∃ f, Cond f ∧ e = .returned (.string (txt 16 f))) ∧ w = w' := by
  obtain ⟨g, hg, eg⟩ := cond16 (f := assertT x) fun k hk => C.and (natC hx) (natC hk)
  go_enter Try.func134, Try.ntmps134
  go_wp2_with fail
  refine (spec_l3Assert x hx _).mono ?_
  rintro e w' ⟨rfl, rfl⟩
  go_wp2_with fail
  refine (spec_l3Angel _ _ H).mono ?_
  rintro e w' ⟨rfl, rfl⟩
  go_wp2_with fail
  refine (spec_l3Dual _ _ (okTxt_txt 16 _ (angelT_ok _))).mono ?_
  rintro e w' ⟨rfl, rfl⟩
  go_wp2_with fail
  refine (spec_l3Then _ _ _ (okTxt_txt 16 _ hg) (okTxt_txt 16 _ (dualT_ok (val_ok _)))).mono ?_
  rintro e w' ⟨rfl, rfl⟩
  go_wp2_with fail
  go_ret
  exact ⟨⟨_, thenT_ok (val_ok _) _, rfl⟩, rfl⟩

theorem l4Some_at (b n p : Nat) (sl : Value) (w : World) (h : Rd w b sl n p) (hp : p ≤ 700000) :
    Calls Try.prog 96 #[.pointer (some ⟨b, 0, none⟩)] w fun e w' => (∃ f, Cond f ∧ e = .returned (.string (txt 16 f))) ∧ ∃ q, q ≤ p + 200 ∧ Rd w' b sl n q ∧ Below b w w' := by
  go_enter Try.func96, Try.ntmps96
  go_wp2_with fail
  refine (pick_at b n p 5 sl w h (by omega) (by decide) (by decide)).mono ?_
  rintro e w1 ⟨⟨v, rfl, hv⟩, hP⟩
  have H1 := hP.rd
  have hb1 := hP.below
  clear h hP
  obtain h2 | h2 | h2 | h2 : v = 0 ∨ v = 1 ∨ v = 2 ∨ 3 ≤ v := by omega
  · subst h2
    go_wp2_with fail
    refine (pick_at b n (p + 1) 16 sl _ H1 (by omega) (by decide) (by decide)).mono ?_
    rintro e w2 ⟨⟨x, rfl, hx⟩, hP⟩
    have H2 := hP.rd
    have hb2 := hP.below
    clear hP
    go_wp2_with fail
    refine (l2Some_at b n (p + 1 + 1) sl _ H2 (by omega)).mono ?_
    rintro e w3 ⟨⟨f2, hf2, rfl⟩, q2, hq2, H3, hb3⟩
    go_wp2_with fail
    refine (spec_l4Spec x hx _ _ (okTxt_txt 4 f2 hf2)).mono ?_
    rintro e w4 ⟨⟨f, hf, rfl⟩, rfl⟩
    go_wp2_with fail
    go_ret
    exact ⟨⟨f, hf, rfl⟩, q2, by omega, H3, (hb1.trans hb2).trans hb3⟩
  · subst h2
    go_wp2_with fail
    refine (pick_at b n (p + 1) 16 sl _ H1 (by omega) (by decide) (by decide)).mono ?_
    rintro e w2 ⟨⟨x, rfl, hx⟩, hP⟩
    have H2 := hP.rd
    have hb2 := hP.below
    clear hP
    go_wp2_with fail
    refine (l2Some_at b n (p + 1 + 1) sl _ H2 (by omega)).mono ?_
    rintro e w3 ⟨⟨f2, hf2, rfl⟩, q2, hq2, H3, hb3⟩
    go_wp2_with fail
    refine (spec_l4Spec x hx _ _ (okTxt_txt 4 f2 hf2)).mono ?_
    rintro e w4 ⟨⟨f, hf, rfl⟩, rfl⟩
    go_wp2_with fail
    refine (spec_l3Dual _ _ (okTxt_txt 16 _ hf)).mono ?_
    rintro e w' ⟨rfl, rfl⟩
    go_wp2_with fail
    go_ret
    exact ⟨⟨_, dualT_ok (val_ok _), rfl⟩, q2, by omega, H3, (hb1.trans hb2).trans hb3⟩
  · subst h2
    go_wp2_with fail
    go_loopw [3, 4] (fun o i wr => ∃ (k q : Nat) (f : Nat → Int), k ≤ 4 ∧ i = .int .i64 k ∧ o = .string (txt k f) ∧ Cond f ∧ q ≤ p + 1 + k ∧ Rd wr b sl n q ∧ Below b w wr) (fun _ i _ => 4 - (intOf i).toNat)
    case atStart => exact ⟨0, p + 1, fun _ => 0, by omega, rfl, rfl, fun _ => zeroC, by omega, H1, hb1⟩
    case round =>
      clear H1 hb1
      obtain ⟨k, q, f, hk, rfl, rfl, hf, hq, H, hb⟩ := hrel
      by_cases hlt : k < 4
      · go_wp2_with fail
        refine (pick_at b n q 4 sl _ H (by omega) (by decide) (by decide)).mono ?_
        rintro e w2 ⟨⟨x, rfl, hx⟩, hP⟩
        have hb2 := hb.trans hP.below
        have H2 := hP.rd
        clear hP H hb
        go_wp2_with fail
        have hc := shC hx
        refine (spec_l2Digit _ _ hc.1 hc.2).mono ?_
        rintro e w' ⟨rfl, rfl⟩
        go_wp2_with fail
        go_roundw
        case rel => exact ⟨k + 1, q + 1, upd f k _, by omega, by go_num, congrArg Value.string (txt_upd k f _), cond_upd hf k hc, by omega, H2, hb2⟩
        case measure => simp [intOf]; omega
      · obtain rfl : k = 4 := by omega
        go_wp2_with fail
        refine (spec_l3Angel _ _ (okTxt_txt 4 f hf)).mono ?_
        rintro e w' ⟨rfl, rfl⟩
        go_wp2_with fail
        go_ret
        exact ⟨⟨_, angelT_ok _, rfl⟩, q, by omega, H, hb⟩
  · have e0 : ((v : Int) == 0) = false := by rw [beq_eq_false_iff_ne]; omega
    have e1 : ((v : Int) == 1) = false := by rw [beq_eq_false_iff_ne]; omega
    have e2 : ((v : Int) == 2) = false := by rw [beq_eq_false_iff_ne]; omega
    go_wp2_with fail
    refine (l3Some_at b n (p + 1) sl _ H1 (by omega)).mono ?_
    rintro e w2 ⟨⟨f, hf, rfl⟩, q, hq, H2, hb2⟩
    go_wp2_with fail
    go_ret
    exact ⟨⟨f, hf, rfl⟩, q, by omega, H2, hb1.trans hb2⟩

theorem l2Open_at (b n p : Nat) (sl : Value) (w : World) (h : Rd w b sl n p) (hp : p ≤ 800000) :
    Calls Try.prog 127 #[.pointer (some ⟨b, 0, none⟩)] w fun e w' => (∃ s : ByteArray, s.size ≤ 5 ∧ e = .returned (.string s)) ∧ ∃ q, q ≤ p + 21 ∧ Rd w' b sl n q ∧ Below b w w' := by
  go_enter Try.func127, Try.ntmps127
  go_wp2_with fail
  refine (l2Some_at b n p sl _ h (by omega)).mono ?_
  rintro e w1 ⟨⟨f, hf, rfl⟩, q, hq, H1, hb1⟩
  go_wp2_with fail
  refine (l2Bad_at b n q sl _ (txt_size 4 f) _ H1 (by omega)).mono ?_
  rintro e w2 ⟨⟨s, hs, rfl⟩, q2, hq2, H2, hb2⟩
  go_wp2_with fail
  go_ret
  exact ⟨⟨s, hs, rfl⟩, q2, by omega, H2, hb1.trans hb2⟩

theorem l11View_at (b n p : Nat) (sl : Value) (w : World) (h : Rd w b sl n p) (hp : p ≤ 700000) :
    Calls Try.prog 88 #[.pointer (some ⟨b, 0, none⟩)] w fun e w' => (∃ s : ByteArray, s.size ≤ 5 ∧ e = .returned (.string s)) ∧ ∃ q, q ≤ p + 30 ∧ Rd w' b sl n q ∧ Below b w w' := by
  go_enter Try.func88, Try.ntmps88
  go_wp2_with fail
  refine (pick_at b n p 3 sl w h (by omega) (by decide) (by decide)).mono ?_
  rintro e w1 ⟨⟨v, rfl, hv⟩, hP⟩
  have H1 := hP.rd
  have hb1 := hP.below
  clear h hP
  obtain h2 | h2 : v = 0 ∨ 1 ≤ v := by omega
  · subst h2
    go_wp2_with fail
    refine (l2Open_at b n (p + 1) sl _ H1 (by omega)).mono ?_
    rintro e w2 ⟨⟨s, hs, rfl⟩, q, hq, H2, hb2⟩
    go_wp2_with fail
    go_ret
    exact ⟨⟨s, hs, rfl⟩, q, by omega, H2, hb1.trans hb2⟩
  · have e0 : ((v : Int) == 0) = false := by rw [beq_eq_false_iff_ne]; omega
    go_wp2_with fail
    go_loopw [3, 4] (fun o i wr => ∃ (k q : Nat) (f : Nat → Int), k ≤ 4 ∧ i = .int .i64 k ∧ o = .string (txt k f) ∧ Cond f ∧ q ≤ p + 1 + k ∧ Rd wr b sl n q ∧ Below b w wr) (fun _ i _ => 4 - (intOf i).toNat)
    case atStart => exact ⟨0, p + 1, fun _ => 0, by omega, rfl, rfl, fun _ => zeroC, by omega, H1, hb1⟩
    case round =>
      clear H1 hb1
      obtain ⟨k, q, f, hk, rfl, rfl, hf, hq, H, hb⟩ := hrel
      by_cases hlt : k < 4
      · go_wp2_with fail
        refine (pick_at b n q 4 sl _ H (by omega) (by decide) (by decide)).mono ?_
        rintro e w2 ⟨⟨x, rfl, hx⟩, hP⟩
        have hb2 := hb.trans hP.below
        have H2 := hP.rd
        clear hP H hb
        go_wp2_with fail
        have hc := shC hx
        refine (spec_l2Digit _ _ hc.1 hc.2).mono ?_
        rintro e w' ⟨rfl, rfl⟩
        go_wp2_with fail
        go_roundw
        case rel => exact ⟨k + 1, q + 1, upd f k _, by omega, by go_num, congrArg Value.string (txt_upd k f _), cond_upd hf k hc, by omega, H2, hb2⟩
        case measure => simp [intOf]; omega
      · obtain rfl : k = 4 := by omega
        go_wp2_with fail
        go_ret
        exact ⟨⟨_, by rw [txt_size]; omega, rfl⟩, q, by omega, H, hb⟩

theorem of_at (b n p m g cap : Nat) (sl : Value) (z : Nat → ByteArray) (w : World) (h : Rd w b sl n p) (hp : p ≤ 900000) (hm : 1 ≤ m) (hm2 : m ≤ 100) (hg : g ≠ b) (hz : ∀ j, j < m → w.cell? ⟨g, j, none⟩ = some (.string (z j))) :
    Calls Try.prog 133 #[.pointer (some ⟨b, 0, none⟩), .slice (some ⟨g, 0, none⟩) m cap] w fun e w' => (∃ j, j < m ∧ e = .returned (.string (z j))) ∧ Picked w w' b sl n p := by
  go_enter Try.func133, Try.ntmps133
  go_wp2_with fail
  refine (pick_at b n p m sl w h (by omega) hm (by omega)).mono ?_
  rintro e w1 ⟨⟨v, rfl, hv⟩, hP⟩
  have h1 : w1.cell? ⟨g, v, none⟩ = some (.string (z v)) := (World.cell?_of_block (hP.other g hg)).trans (hz v hv)
  have hv2 : (v : Int) < m := by omega
  go_wp2_with fail
  go_ret
  exact ⟨⟨v, hv, rfl⟩, hP⟩

/-- the numbers of which a bad condition is taken -/
def badC (j : Nat) : Int := if j = 0 then -1 else if j = 1 then 16 else 9223372036854775807
theorem badC_le (j : Nat) : -1 ≤ badC j ∧ badC j ≤ 9223372036854775807 := by unfold badC; split <;> (try split) <;> omega

end Go.Proofs.Ytfeaeabhnkehcaa
