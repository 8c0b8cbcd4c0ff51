/- Contracts: the drawing of arguments, whole. -/
import Derived.Test.YtfeaeabhnkehcaaDraw3
import Derived.Deep.RegionWith
namespace Go.Proofs.Ytfeaeabhnkehcaa
set_option linter.unusedVariables false
set_option linter.unusedSimpArgs false
open Go.RowKit Go.Shelf
set_option maxRecDepth 100000
set_option maxHeartbeats 1000000

theorem Rd.drew {w : World} {b n p : Nat} {sl : Value} (h : Rd w b sl n p) : Rd w.drew b sl n p := ⟨h.eq, h.bts.keep (Below.refl _ _).drew⟩
theorem Rd.old {w : World} {b n p : Nat} {sl : Value} (h : Rd w b sl n p) (o : Obj) : Rd (w.alloc o) b sl n p :=
  h.keep ((Below.refl b w).alloc (Nat.le_of_lt h.lt) o) (Below.heap_alloc w o b h.lt)

theorem of4_at (b n p : Nat) (sl : Value) (w : World) (z0 z1 z2 z3 : ByteArray) (h : Rd w b sl n p) (hp : p ≤ 800000) (h0 : z0.size = 1) (h1 : z1.size = 1) (h2 : z2.size = 1) (h3 : z3.size = 1) :
    Calls Try.prog 133 #[.pointer (some ⟨b, 0, none⟩), .slice (some ⟨w.heap.size, 0, none⟩) 4 4] (w.alloc (.cells #[.string z0, .string z1, .string z2, .string z3] 9)) fun e w' =>
      (∃ s : ByteArray, s.size = 1 ∧ e = .returned (.string s)) ∧ Rd w' b sl n (p + 1) ∧ Below b w w' := by
  have hlt := h.lt
  refine (of_at b n p 4 w.heap.size 4 sl (fun j => if j = 0 then z0 else if j = 1 then z1 else if j = 2 then z2 else z3) _ (h.old _) (by omega) (by decide) (by decide) (by omega) ?_).mono ?_
  · intro j hj
    rw [cell_of_row _ _ j _ _ _ (heap_alloc_new w _)]
    obtain rfl | rfl | rfl | rfl : j = 0 ∨ j = 1 ∨ j = 2 ∨ j = 3 := by omega
    all_goals rfl
  · rintro e w' ⟨⟨j, hj, rfl⟩, hP⟩
    refine ⟨⟨_, ?_, rfl⟩, hP.rd, ((Below.refl b w).alloc (Nat.le_of_lt hlt) _).trans hP.below⟩
    obtain rfl | rfl | rfl | rfl : j = 0 ∨ j = 1 ∨ j = 2 ∨ j = 3 := by omega
    all_goals (simp; assumption)

theorem l3Bad_at (b n p : Nat) (sl : Value) (s : ByteArray) (hs : s.size = 16) (w : World) (h : Rd w b sl n p) (hp : p ≤ 700000) :
    Calls Try.prog 95 #[.pointer (some ⟨b, 0, none⟩), .string s] w fun e w' => (∃ s' : ByteArray, s'.size ≤ 20 ∧ e = .returned (.string s')) ∧ ∃ q, q ≤ p + 3 ∧ Rd w' b sl n q ∧ Below b w w' := by
  have h1 : 1 ≤ s.size := by omega
  go_enter Try.func95, Try.ntmps95
  go_wp2_with fail
  refine (pick_at b n p 40 sl w h (by omega) (by decide) (by decide)).mono ?_
  rintro e w1 ⟨⟨v, rfl, hv⟩, hP⟩
  have H1 := hP.rd
  have hb1 := hP.below
  clear h hP
  obtain h2 | h2 | h2 | h2 : v = 0 ∨ v = 1 ∨ v = 2 ∨ 3 ≤ v := by omega
  · subst h2
    go_wp2_with fail
    go_ret
    exact ⟨⟨_, by simp [hs] <;> decide, rfl⟩, p + 1, by omega, H1, hb1⟩
  · subst h2
    go_wp2_with fail
    go_ret
    exact ⟨⟨_, by simp [hs] <;> decide, rfl⟩, p + 1, by omega, H1, hb1⟩
  · subst h2
    go_wp2_with fail
    refine (pick_at b n (p + 1) 16 sl _ H1 (by omega) (by decide) (by decide)).mono ?_
    rintro e w2 ⟨⟨k, rfl, hk⟩, hP⟩
    have H2 := hP.rd.drew
    have hb2 := (hb1.trans hP.below).drew
    clear hP H1 hb1
    have q1 : ¬ ((16 : Int) < (k : Int)) := by omega
    have q2 : ¬ ((16 : Int) < (k : Int) + 1) := by omega
    have q3 : IntKind.i64.wrap ((k : Int) + 1) = (k : Int) + 1 := by rw [IntKind.wrap_i64]; omega
    go_wp2_with fail
    go_region_with (go_at_call 133; refine (of4_at b n (p + 1 + 1) sl w2.drew ⟨#[48]⟩ ⟨#[102]⟩ ⟨#[103]⟩ ⟨#[53]⟩ H2 (by omega) rfl rfl rfl rfl).mono ?_; rintro e w3 ⟨⟨s', hs', rfl⟩, H3, hb3⟩)
    all_goals
      go_wp2_with fail
      go_ret
      exact ⟨⟨_, by simp [hs, hs'] <;> omega, rfl⟩, p + 1 + 1 + 1, by omega, H3, hb2.trans hb3⟩
  · have e0 : ((v : Int) == 0) = false := by rw [beq_eq_false_iff_ne]; omega
    have e1 : ((v : Int) == 1) = false := by rw [beq_eq_false_iff_ne]; omega
    have e2 : ((v : Int) == 2) = false := by rw [beq_eq_false_iff_ne]; omega
    go_wp2_with fail
    go_ret
    exact ⟨⟨s, by omega, rfl⟩, p + 1, by omega, H1, hb1⟩

theorem l4Open_at (b n p : Nat) (sl : Value) (w : World) (h : Rd w b sl n p) (hp : p ≤ 600000) :
    Calls Try.prog 41 #[.pointer (some ⟨b, 0, none⟩)] w fun e w' => (∃ s : ByteArray, s.size ≤ 20 ∧ e = .returned (.string s)) ∧ ∃ q, q ≤ p + 300 ∧ Rd w' b sl n q ∧ Below b w w' := by
  go_enter Try.func41, Try.ntmps41
  go_wp2_with fail
  refine (l4Some_at b n p sl _ h (by omega)).mono ?_
  rintro e w1 ⟨⟨f, hf, rfl⟩, q, hq, H1, hb1⟩
  go_wp2_with fail
  refine (l3Bad_at b n q sl _ (txt_size 16 f) _ H1 (by omega)).mono ?_
  rintro e w2 ⟨⟨s, hs, rfl⟩, q2, hq2, H2, hb2⟩
  go_wp2_with fail
  go_ret
  exact ⟨⟨s, hs, rfl⟩, q2, by omega, H2, hb1.trans hb2⟩

/-- a source is made of the bytes that came in -/
theorem l14Open_at (a : Option Addr) (len cap : Nat) (zs : List Int) (w : World) (h : IsRow .u8 w a len cap zs) :
    Calls Try.prog 42 #[.slice a len cap] w fun e w' => e = .returned (.pointer (some ⟨w.heap.size, 0, none⟩)) ∧ (∃ sl n, Rd w' w.heap.size sl n 0) ∧ Below w.heap.size w w' := by
  have hb : ∀ n sl, Bts w w.heap.size n sl → Rd (w.alloc (.cells #[sl, .int .i64 0] 76)) w.heap.size sl n 0 := fun n sl hB =>
    ⟨heap_alloc_new w _, hB.keep ((Below.refl _ _).alloc (Nat.le_refl _) _)⟩
  rcases h with ⟨rfl, rfl, rfl, rfl⟩ | ⟨x, rfl, hl, hm, hz, hc, hw⟩
  · go_enter Try.func42, Try.ntmps42
    go_wp2_with fail
    go_ret
    exact ⟨rfl, ⟨_, 0, hb 0 _ (.inl ⟨rfl, _, _, rfl⟩)⟩, below_new (Below.refl _ _) _⟩
  · have HB : ∀ n, n ≤ len → n ≤ 2000 → Bts w w.heap.size n (.slice (some x) n cap) := fun n hn hn2 => by
      rcases Nat.eq_zero_or_pos n with rfl | hpos
      · exact .inl ⟨rfl, _, _, rfl⟩
      · have h0 := hc 0 (by omega)
        have hx : x.block < w.heap.size := by
          have := block_lt_of_cell h0
          unfold Addr.add at this; split at this <;> exact this
        refine .inr ⟨hpos, hn2, x, cap, rfl, hx, fun j => zs.getD j 0, fun j hj => ⟨hc j (by omega), ?_⟩⟩
        have hmem : zs.getD j 0 ∈ zs := by
          rw [List.getD_eq_getElem?_getD, List.getElem?_eq_getElem (by omega)]; exact List.getElem_mem _
        have h9 := hw _ hmem
        show 0 ≤ zs.getD j 0 ∧ zs.getD j 0 ≤ 255
        generalize zs.getD j 0 = y at h9
        simp [Lit.wf, IntKind.min, IntKind.max, IntKind.signed, IntKind.bits] at h9
        omega
    clear hc hw
    by_cases h2 : 2000 < len
    · have hcap : 2000 ≤ cap := by omega
      go_enter Try.func42, Try.ntmps42
      go_wp2_with fail
      go_ret
      exact ⟨rfl, ⟨_, 2000, hb 2000 _ (HB 2000 (by omega) (by omega))⟩, below_new (Below.refl _ _) _⟩
    · go_enter Try.func42, Try.ntmps42
      go_wp2_with fail
      go_ret
      exact ⟨rfl, ⟨_, len, hb len _ (HB len (by omega) (by omega))⟩, below_new (Below.refl _ _) _⟩

theorem DrawUndoOf_at (a : Option Addr) (len cap : Nat) (zs : List Int) (w : World) (h : IsRow .u8 w a len cap zs) :
    Calls Try.prog 9 #[.slice a len cap] w fun e w' => (∃ s : ByteArray, s.size ≤ 20 ∧ e = .returned (.string s)) ∧ Below w.heap.size w w' := by
  go_enter Try.func9, Try.ntmps9
  go_wp2_with fail
  refine (l14Open_at a len cap zs w h).mono ?_
  rintro e w1 ⟨rfl, ⟨sl, n, H⟩, hb⟩
  go_wp2_with fail
  refine (l4Open_at _ n 0 sl _ H (by omega)).mono ?_
  rintro e w2 ⟨⟨s, hs, rfl⟩, q, hq, H2, hb2⟩
  go_wp2_with fail
  go_ret
  exact ⟨⟨s, hs, rfl⟩, hb.trans hb2⟩

theorem DrawComposeViews_at (a : Option Addr) (len cap : Nat) (zs : List Int) (w : World) (h : IsRow .u8 w a len cap zs) :
    Calls Try.prog 36 #[.slice a len cap] w fun e w' => (∃ s u : ByteArray, s.size ≤ 20 ∧ u.size ≤ 20 ∧ e = .returned (.tuple #[.string s, .string u])) ∧ Below w.heap.size w w' := by
  go_enter Try.func36, Try.ntmps36
  go_wp2_with fail
  refine (l14Open_at a len cap zs w h).mono ?_
  rintro e w1 ⟨rfl, ⟨sl, n, H⟩, hb⟩
  go_wp2_with fail
  refine (l11View_at _ n 0 sl _ H (by omega)).mono ?_
  rintro e w2 ⟨⟨s, hs, rfl⟩, q, hq, H2, hb2⟩
  go_wp2_with fail
  refine (l11View_at _ n q sl _ H2 (by omega)).mono ?_
  rintro e w3 ⟨⟨u, hu, rfl⟩, q3, hq3, H3, hb3⟩
  go_wp2_with fail
  go_ret2
  exact ⟨⟨s, u, by omega, by omega, rfl⟩, (hb.trans hb2).trans hb3⟩
end Go.Proofs.Ytfeaeabhnkehcaa
