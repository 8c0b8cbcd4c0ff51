/- Contracts: the drawing of transformers. -/
import Derived.Test.YtfeaeabhnkehcaaDraw
import Derived.Test.YtfeaeabhnkehcaaSpF
namespace Go.Proofs.Ytfeaeabhnkehcaa
set_option linter.unusedVariables false
set_option linter.unusedSimpArgs false
open Go.RowKit Go.Shelf
set_option maxRecDepth 100000
set_option maxHeartbeats 1000000

theorem spec_l3Assert (x : Nat) (hx : x < 16) (w : World) : Calls Try.prog 48 #[.int .i64 x] w fun e w' => e = .returned (.string (txt 16 (assertT x))) ∧ w = w' := by
  go_enter Try.func48, Try.ntmps48
  go_wp2_with fail
  go_loop [3, 4] (fun o i => ∃ k : Nat, k ≤ 16 ∧ i = .int .i64 k ∧ o = .string (txt k (assertT x))) (fun _ i => 16 - (intOf i).toNat)
  case atStart => exact ⟨0, by omega, rfl, rfl⟩
  case round =>
    obtain ⟨k, hk, rfl, rfl⟩ := hrel
    by_cases hlt : k < 16
    · have hc : C (bits .and .i64 (x : Int) (k : Int)) := C.and ⟨by omega, by omega⟩ ⟨by omega, by omega⟩
      go_wp2_with fail
      refine (spec_l2Digit _ _ hc.1 hc.2).mono ?_
      rintro e w' ⟨rfl, rfl⟩
      go_wp2_with fail
      go_round
      case rel => exact ⟨k + 1, by omega, by go_num, congrArg Value.string (txt_succ k (assertT x))⟩
      case measure => simp [intOf]; omega
    · obtain rfl : k = 16 := by omega
      go_wp2_with fail
      go_ret
      exact ⟨rfl, rfl⟩

/-- a table of conditions has one that holds conditions everywhere -/
theorem cond16 {f : Nat → Int} (h : ∀ k, k < 16 → C (f k)) : ∃ g, Cond g ∧ txt 16 f = txt 16 g :=
  ⟨fun k => if k < 16 then f k else 0, fun k => by
    dsimp only; split
    · exact h k (by assumption)
    · exact zeroC, txt_ext fun k hk => by simp [hk]⟩

theorem Picked.grown {w w' : World} {b n p : Nat} {sl : Value} (h : Picked w w' b sl n p) : w.grownBy w' (some b) :=
  ⟨h.below.os, h.below.tape, h.below.output, by rw [h.size]; exact Nat.le_refl _, fun k _ hne => h.other k (fun e => hne (by rw [e]))⟩
theorem Rd.keep {w w' : World} {b n p : Nat} {sl : Value} (h : Rd w b sl n p) (hb : Below b w w') (e : w'.heap[b]? = w.heap[b]?) : Rd w' b sl n p := ⟨e.trans h.eq, h.bts.keep hb⟩
/-- families as cells -/
def famL (f : Nat → Int) (k : Nat) : List Value := (List.range k).map fun s => .int .i64 (f s)
theorem famL_upd (f : Nat → Int) (k : Nat) (x : Int) : famL f k ++ [.int .i64 x] = famL (upd f k x) (k + 1) := by
  simp only [famL, List.range_succ, List.map_append, List.map_cons, List.map_nil, upd_same]
  congr 1
  exact List.map_congr_left fun s hs => by rw [upd_other _ _ _ _ (by have := List.mem_range.1 hs; omega)]
theorem famL_slice {w : World} {base : Nat} {e : TypeId} {v : Value} {n : Nat} {f : Nat → Int} (h : w.ownsRow base e 1 v n (famL f n)) (hne : v ≠ .slice none 0 0) :
    ∃ g cap, v = .slice (some ⟨g, 0, none⟩) n cap ∧ ∀ s, s < n → w.cell? ⟨g, s, none⟩ = some (.int .i64 (f s)) := by
  rcases h.2 with ⟨rfl, _⟩ | ⟨g, cap, cur, rfl, _⟩
  · exact absurd rfl hne
  · refine ⟨g, cap, rfl, fun s hs => ?_⟩
    have h1 := World.ownsRow.cells h (g := g) rfl s (.int .i64 (f s)) (by simp [famL, hs])
    have h2 : (⟨g, 0, none⟩ : Addr).add s = ⟨g, s, none⟩ := by unfold Addr.add; split <;> simp_all
    rwa [h2] at h1
theorem fit0 : Fit 16 0 := ⟨by decide, by decide⟩
theorem own_ne {w : World} {base b : Nat} {e : TypeId} {v : Value} {n : Nat} {xs : List Value} (h : w.ownsRow base e 1 v n xs) (hb : b < base) : v.ownBlock = none ∨ v.ownBlock ≠ some b :=
  .inr fun k => by have := (h.lt b k).1; omega
theorem fit_upd {f : Nat → Int} (hf : ∀ s, Fit 16 (f s)) (k : Nat) {x : Int} (hx : Fit 16 x) : ∀ s, Fit 16 (upd f k x s) := fun s => by
  unfold upd; split
  · exact hx
  · exact hf s

theorem l3Some_at (b n p : Nat) (sl : Value) (w : World) (h : Rd w b sl n p) (hp : p ≤ 800000) :
    Calls Try.prog 136 #[.pointer (some ⟨b, 0, none⟩)] w fun e w' => (∃ f, Cond f ∧ e = .returned (.string (txt 16 f))) ∧ ∃ q, q ≤ p + 100 ∧ Rd w' b sl n q ∧ Below b w w' := by
  go_enter Try.func136, Try.ntmps136
  go_wp2_with fail
  refine (pick_at b n p 6 sl w h (by omega) (by decide) (by decide)).mono ?_
  rintro e w1 ⟨⟨v, rfl, hv⟩, hP⟩
  have H1 := hP.rd
  have hb1 := hP.below
  clear h hP
  obtain h2 | h2 | h2 | h2 | h2 : v = 0 ∨ v = 1 ∨ v = 2 ∨ v = 3 ∨ 4 ≤ v := by omega
  · subst h2
    go_wp2_with fail
    refine (l2Some_at b n (p + 1) sl _ H1 (by omega)).mono ?_
    rintro e w2 ⟨⟨f, hf, rfl⟩, q, hq, H2, hb2⟩
    go_wp2_with fail
    refine (spec_l3Angel _ _ (okTxt_txt 4 f hf)).mono ?_
    rintro e w' ⟨rfl, rfl⟩
    go_wp2_with fail
    go_ret
    exact ⟨⟨_, angelT_ok _, rfl⟩, q, by omega, H2, hb1.trans hb2⟩
  · subst h2
    go_wp2_with fail
    refine (l2Some_at b n (p + 1) sl _ H1 (by omega)).mono ?_
    rintro e w2 ⟨⟨f, hf, rfl⟩, q, hq, H2, hb2⟩
    go_wp2_with fail
    refine (spec_l3Angel _ _ (okTxt_txt 4 f hf)).mono ?_
    rintro e w' ⟨rfl, rfl⟩
    go_wp2_with fail
    refine (spec_l3Dual _ _ (okTxt_txt 16 _ (angelT_ok _))).mono ?_
    rintro e w' ⟨rfl, rfl⟩
    go_wp2_with fail
    go_ret
    exact ⟨⟨_, dualT_ok (val_ok _), rfl⟩, q, by omega, H2, hb1.trans hb2⟩
  · subst h2
    go_wp2_with fail
    refine (l2Some_at b n (p + 1) sl _ H1 (by omega)).mono ?_
    rintro e w2 ⟨⟨f, hf, rfl⟩, q, hq, H2, hb2⟩
    go_wp2_with fail
    refine (spec_l3Angel _ _ (okTxt_txt 4 f hf)).mono ?_
    rintro e w' ⟨rfl, rfl⟩
    go_wp2_with fail
    refine (l2Some_at b n q sl _ H2 (by omega)).mono ?_
    rintro e w3 ⟨⟨f2, hf2, rfl⟩, q2, hq2, H3, hb3⟩
    go_wp2_with fail
    refine (spec_l3Angel _ _ (okTxt_txt 4 f2 hf2)).mono ?_
    rintro e w' ⟨rfl, rfl⟩
    go_wp2_with fail
    refine (spec_l3Dual _ _ (okTxt_txt 16 _ (angelT_ok _))).mono ?_
    rintro e w' ⟨rfl, rfl⟩
    go_wp2_with fail
    refine (spec_l3Then _ _ _ (okTxt_txt 16 _ (angelT_ok _)) (okTxt_txt 16 _ (dualT_ok (val_ok _)))).mono ?_
    rintro e w' ⟨rfl, rfl⟩
    go_wp2_with fail
    go_ret
    exact ⟨⟨_, thenT_ok (val_ok _) _, rfl⟩, q2, by omega, H3, (hb1.trans hb2).trans hb3⟩
  · subst h2
    go_wp2_with fail
    refine (pick_at b n (p + 1) 16 sl _ H1 (by omega) (by decide) (by decide)).mono ?_
    rintro e w2 ⟨⟨x, rfl, hx⟩, hP⟩
    have H2 := hP.rd
    have hb2 := hP.below
    clear hP
    obtain ⟨g, hg, eg⟩ := cond16 (f := assertT x) fun k hk => C.and (natC hx) (natC hk)
    go_wp2_with fail
    refine (spec_l3Assert x hx _).mono ?_
    rintro e w' ⟨rfl, rfl⟩
    go_wp2_with fail
    refine (l2Some_at b n (p + 1 + 1) sl _ H2 (by omega)).mono ?_
    rintro e w3 ⟨⟨f2, hf2, rfl⟩, q2, hq2, H3, hb3⟩
    go_wp2_with fail
    refine (spec_l3Angel _ _ (okTxt_txt 4 f2 hf2)).mono ?_
    rintro e w' ⟨rfl, rfl⟩
    go_wp2_with fail
    refine (spec_l3Dual _ _ (okTxt_txt 16 _ (angelT_ok _))).mono ?_
    rintro e w' ⟨rfl, rfl⟩
    go_wp2_with fail
    refine (spec_l3Then _ _ _ (okTxt_txt 16 _ hg) (okTxt_txt 16 _ (dualT_ok (val_ok _)))).mono ?_
    rintro e w' ⟨rfl, rfl⟩
    go_wp2_with fail
    go_ret
    exact ⟨⟨_, thenT_ok (val_ok _) _, rfl⟩, q2, by omega, H3, (hb1.trans hb2).trans hb3⟩
  · have e0 : ((v : Int) == 0) = false := by rw [beq_eq_false_iff_ne]; omega
    have e1 : ((v : Int) == 1) = false := by rw [beq_eq_false_iff_ne]; omega
    have e2 : ((v : Int) == 2) = false := by rw [beq_eq_false_iff_ne]; omega
    have e3 : ((v : Int) == 3) = false := by rw [beq_eq_false_iff_ne]; omega
    obtain ⟨i0, hi, hz0, hz1, hz2⟩ := info_parts int_info3
    have hw0 : (w1.alloc (Obj.cells #[] 3)).ownsRow w1.heap.size 3 1 (.slice (some ⟨w1.heap.size, 0, none⟩) 0 0) 0 (famL (fun _ => 0) 0) := World.ownsRow_made w1 #[] 0 (Nat.le_refl _) (by decide) rfl
    have hbb := H1.lt
    have hb0 : Below w1.heap.size w1 (w1.alloc (Obj.cells #[] 3)) := below_new (Below.refl _ _) _
    have H0 : Rd (w1.alloc (Obj.cells #[] 3)) b sl n (p + 1) := H1.keep (hb0.mono (by omega)) (hb0.block b hbb)
    have hbl : Below b w (w1.alloc (Obj.cells #[] 3)) := hb1.trans (hb0.mono (by omega))
    have hsz : w1.heap.size ≤ (w1.alloc (Obj.cells #[] 3)).heap.size := hb0.size
    go_wp2_with fail
    go_loopw [3, 4] (fun v i wr => ∃ (k q : Nat) (f : Nat → Int), k ≤ 4 ∧ i = .int .i64 k ∧ (∀ s, Fit 16 (f s)) ∧ wr.ownsRow w1.heap.size 3 1 v k (famL f k) ∧ v ≠ .slice none 0 0 ∧ q ≤ p + 1 + 5 * k ∧ Rd wr b sl n q ∧ Below b w wr ∧ w1.heap.size ≤ wr.heap.size) (fun _ i _ => 4 - (intOf i).toNat)
    case atStart => exact ⟨0, p + 1, fun _ => 0, by omega, rfl, fun _ => fit0, hw0, by simp, by omega, H0, hbl, hsz⟩
    case round =>
      clear hw0 hb0 H0 hbl hsz H1
      obtain ⟨k, q, f, hk, rfl, hf, hown, hne, hq, H, hb, hs⟩ := hrel
      by_cases hlt : k < 4
      · go_wp2_with fail
        refine (pick_at b n q 4 sl _ H (by omega) (by decide) (by decide)).mono ?_
        rintro e w2 ⟨⟨m, rfl, hm⟩, hP⟩
        have hown2 := hown.kept hP.grown (own_ne hown hbb)
        have H2 := hP.rd
        have hb2 := hb.trans hP.below
        have hs2 : w1.heap.size ≤ w2.heap.size := by rw [hP.size]; exact hs
        clear hP H hb hs hown
        go_wp2_with fail
        go_loopw [5, 6] (fun x c wr => ∃ (j r : Nat) (y : Int), j ≤ m ∧ c = .int .i64 j ∧ x = .int .i64 y ∧ Fit 16 y ∧ r + j ≤ q + 1 + m ∧ Rd wr b sl n r ∧ wr.ownsRow w1.heap.size 3 1 u3 k (famL f k) ∧ Below b w wr ∧ w1.heap.size ≤ wr.heap.size) (fun _ c _ => (intOf c).toNat)
        case atStart => exact ⟨m, q + 1, 0, by omega, rfl, rfl, fit0, by omega, H2, hown2, hb2, hs2⟩
        case round =>
          clear hown2 H2 hb2 hs2
          obtain ⟨j, r, y, hj, rfl, rfl, hy, hr, H, hown, hb, hs⟩ := hrel
          by_cases hjt : 0 < j
          · obtain ⟨j', rfl⟩ : ∃ j', j = j' + 1 := ⟨j - 1, by omega⟩
            go_wp2_with fail
            refine (pick_at b n r 16 sl _ H (by omega) (by decide) (by decide)).mono ?_
            rintro e w3 ⟨⟨z, rfl, hz⟩, hP⟩
            have hown3 := hown.kept hP.grown (own_ne hown hbb)
            have H3 := hP.rd
            have hb3 := hb.trans hP.below
            have hs3 : w1.heap.size ≤ w3.heap.size := by rw [hP.size]; exact hs
            clear hP H hb hs hown
            go_wp2_with fail
            go_roundw
            case rel => exact ⟨j', r + 1, _, by omega, by go_num, rfl, fit_or (by decide) hy (fit_sh (by decide) hz), by omega, H3, hown3, hb3, hs3⟩
            case measure => simp [intOf]
          · obtain rfl : j = 0 := by omega
            go_wp2_with (at_builtin; refine wpList_append_own _ rfl _ _ _ rfl w1.heap.size 3 i0 (.int .i64 0) 1 8 (by kernel_rfl) hi hz0 hz1 hz2 rfl (by decide) _ _ _ rfl (hown.alloc _) ⟨wr.heap.size, 0, none⟩ 1 1 [.int .i64 y] rfl rfl ?c1 ?c2 ?c3 ?c4 ?c5 ?_)
            case c1 =>
              intro j x hj
              match j, hj with
              | 0, hj => simp at hj; subst hj; simp [Addr.add]
            case c2 => intro x hx; simp at hx; subst hx; rfl
            case c3 => unfold maxLen; omega
            case c4 => omega
            case c5 => simp; omega
            intro v' w4 hown' hgrow hnil
            have hne4 : v' ≠ .slice none 0 0 := by simpa using hnil
            have hbw : Below b wr w4 := ((Below.refl b wr).alloc (by omega) _).grown hgrow (by simp; omega) (fun k hk => by have := (hown.lt k hk).1; omega)
            have H4 : Rd w4 b sl n r := H.keep hbw ((hgrow.block b (by simp; omega) (fun e => by have := (hown.lt b e.symm).1; omega)).trans ((Below.heap_alloc wr _ b H.lt)))
            have hb4 := hb.trans hbw
            have hs4 : w1.heap.size ≤ w4.heap.size := by have := hgrow.size; simp at this; omega
            rw [famL_upd] at hown'
            clear hbw hb H hown hs hgrow hnil
            go_wp2_with fail
            go_roundw
            case rel => exact ⟨k + 1, r, upd f k y, by omega, by go_num, fit_upd hf k hy, hown', hne4, by omega, H4, hb4, hs4⟩
            case measure => simp [intOf]; omega
      · obtain rfl : k = 4 := by omega
        obtain ⟨g, cap, rfl, hg⟩ := famL_slice hown hne
        go_wp2_with fail
        refine (spec_TransOf g cap f hf _ hg).mono ?_
        rintro e w' ⟨rfl, rfl⟩
        go_wp2_with fail
        go_ret
        exact ⟨⟨_, transOfT_ok _, rfl⟩, q, by omega, H, hb⟩
end Go.Proofs.Ytfeaeabhnkehcaa
