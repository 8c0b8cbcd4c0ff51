/- The text of numbers: the program's answers as the reference's: the statement's walk. -/
import Derived.Test.YtaeibhpkcikaaaaDoorFmtW
import Derived.Laws.OwnMore
import Derived.Laws.MakeOwn
namespace Go.Proofs.YtaeibhpkcikaaaaDoor
set_option linter.unusedVariables false
set_option linter.unusedSimpArgs false
open Go.RowKit Go.Shelf
set_option maxRecDepth 100000
set_option maxHeartbeats 4000000

def IntsEnd (len : Nat) (xs : List Int) (w : World) (e : Ending) (w' : World) : Prop := (∃ g cap, e = .returned (.slice (some ⟨g, 0, none⟩) len cap) ∧ Ints w' (some ⟨g, 0, none⟩) len xs) ∧ Below w.heap.size w w'
theorem int_infoD : (Tryd.prog.info? 3).map (fun i => (i.zero, i.size, i.bytes)) = some (some (.int .i64 0), 1, 8) := by kernel_rfl
def intL (l : List Int) : List Value := l.map (Value.int .i64)
theorem ints_own {w : World} {base g len cap : Nat} {xs : List Int} (hl : xs.length = len) (h : w.ownsRow base 3 1 (.slice (some ⟨g, 0, none⟩) len cap) len (intL xs)) : Ints w (some ⟨g, 0, none⟩) len xs := by
  refine ⟨hl, .inr ⟨⟨g, 0, none⟩, rfl, ?_, fun j v hj => ?_⟩⟩
  · rcases h.2 with ⟨h', _⟩ | ⟨g', cap', cur, h', _, hg, _⟩
    · simp at h'
    · simp only [Value.slice.injEq, Option.some.injEq, Addr.mk.injEq, and_true, true_and] at h'
      obtain ⟨rfl, rfl⟩ := h'
      exact (Array.getElem?_eq_some_iff.1 hg).1
  · have h1 := World.ownsRow.cells h (g := g) rfl j (.int .i64 v) (by unfold intL; rw [List.getElem?_map, hj]; rfl)
    exact h1
theorem set_take {L : List Value} {xs : List Int} {k : Nat} {n : Int} (h : L.take k = intL (xs.take k)) (hn : xs[k]? = some n) (hk : k < L.length) : (L.set k (.int .i64 n)).take (k + 1) = intL (xs.take (k + 1)) := by
  obtain ⟨hk', rfl⟩ := List.getElem?_eq_some_iff.1 hn
  have e1 : intL (xs.take (k + 1)) = intL (xs.take k) ++ [.int .i64 xs[k]] := by
    rw [List.take_succ_eq_append_getElem hk']; unfold intL; rw [List.map_append]; rfl
  rw [e1, ← h, List.take_succ_eq_append_getElem (by simpa using hk)]
  congr 1
  · rw [List.take_set, List.set_eq_of_length_le (by rw [List.length_take]; omega)]
  · simp
theorem laws_toIntS (a : Option Addr) (len cap : Nat) (xs : List Int) (w : World) (h : Ints w a len xs) (hlen : len ≤ 1048576) :
    Calls Tryd.prog 6 #[.slice a len cap] w (IntsEnd len xs w) := by
  obtain ⟨i0, hi, hz0, hz1, hz2⟩ := info_parts int_infoD
  obtain ⟨w0, hmk, hown0, hg0⟩ := run_makeSlice_full (P := Tryd.prog) w w.heap.size 22 3 i0 (.int .i64 0) 1 (by kernel_rfl) hi hz0 hz1 .i64 .i64 len (by omega) (by rw [hz2]; omega) (by unfold maxLen; omega) (Nat.le_refl _)
  have hb0 : Below w.heap.size w w0 := (Below.refl w.heap.size w).grown hg0 (Nat.le_refl _) (fun k hk => by cases hk)
  have h' := h.keep hb0
  obtain ⟨hl, hx⟩ := h
  have HX := Lib.hid hx
  clear hx hg0 h'
  have hlL : (madeCells (Value.int .i64 0).cells (len * 1)).toList.length = len := by have := hown0.1; omega
  generalize (madeCells (Value.int .i64 0).cells (len * 1)).toList = L0 at *
  go_enter Tryd.func6, Tryd.ntmps6
  go_wp2_with fail
  go_loopw [4] (fun i wr => ∃ (k : Nat) (L : List Value), k ≤ len ∧ i = .int .i64 k ∧ L.length = len ∧ Hid (L.take k = intL (xs.take k)) ∧ wr.ownsRow w.heap.size 3 1 (.slice (some ⟨w.heap.size, 0, none⟩) len len) len L ∧ Below w.heap.size w wr) (fun i _ => len - (intOf i).toNat)
  case atStart => exact ⟨0, L0, by omega, rfl, hlL, rfl, hown0, hb0⟩
  case round =>
    obtain ⟨k, L, hk, rfl, hL, HL, hown, hb⟩ := hrel
    clear hown0 hb0 hlL hmk
    by_cases hlt : k < len
    · obtain ⟨x, rfl, hxb, hcell⟩ : ∃ x, a = some x ∧ x.block < w.heap.size ∧ ∀ j v, xs[j]? = some v → w.cell? (x.add j) = some (.int .i64 v) := HX.out.resolve_left (by omega)
      obtain ⟨n, hn⟩ : ∃ n, xs[k]? = some n := ⟨xs[k]'(by omega), by simp [hl, hlt]⟩
      have hc : wr.cell? (x.add k) = some (.int .i64 n) := (hb.cell (by unfold Addr.add; split <;> exact hxb)).trans (hcell k n hn)
      obtain ⟨v0, hv0⟩ : ∃ v, L[k]? = some v := ⟨L[k]'(by omega), by simp [hL, hlt]⟩
      have hc2 := hown.cellAt k (by omega)
      rw [hv0] at hc2
      have hf := hown.frozenAt k
      have ek : decide ((k : Int) < (len : Nat)) = true := by rw [decide_eq_true_eq]; omega
      have HN := Lib.hid hn
      clear hcell hn hv0
      go_wp2_with fail
      refine ⟨⟨k + 1, L.set k (.int .i64 n), by omega, by go_num, by simp [hL], set_take HL.out HN.out (by omega), (hown.stored k _).1, hb.setCell (p := ⟨w.heap.size, k, none⟩) (Nat.le_refl _) _⟩, by simp [intOf]; omega⟩
    · obtain rfl : k = len := by omega
      have hLe : L = intL xs := by
        have := HL.out
        rwa [List.take_of_length_le (by omega), List.take_of_length_le (by omega)] at this
      subst hLe
      go_wp2_with fail
      go_ret
      exact ⟨⟨_, _, rfl, ints_own hl hown⟩, hb⟩
theorem laws_eqIntS (a b : Option Addr) (len c1 c2 : Nat) (xs : List Int) (w : World) (h : Ints w a len xs) (k : Ints w b len xs) (hlen : len ≤ 1048576) :
    Calls Tryd.prog 8 #[.slice a len c1, .slice b len c2] w fun e w' => e = .returned (.bool true) ∧ Below w.heap.size w w' := by
  obtain ⟨hl, hx⟩ := h
  obtain ⟨_, hy⟩ := k
  have HX := Lib.hid hx
  have HY := Lib.hid hy
  clear hx hy
  go_enter Tryd.func8, Tryd.ntmps8
  go_wp2_with fail
  go_loopw [5] (fun i wr => ∃ k : Nat, k ≤ len ∧ i = .int .i64 k ∧ Below w.heap.size w wr) (fun i _ => len - (intOf i).toNat)
  case atStart => exact ⟨0, by omega, rfl, Below.refl _ _⟩
  case round =>
    obtain ⟨k, hk, rfl, hb⟩ := hrel
    by_cases hlt : k < len
    · obtain ⟨x, rfl, hxb, hxc⟩ : ∃ x, a = some x ∧ x.block < w.heap.size ∧ ∀ j v, xs[j]? = some v → w.cell? (x.add j) = some (.int .i64 v) := HX.out.resolve_left (by omega)
      obtain ⟨y, rfl, hyb, hyc⟩ : ∃ x, b = some x ∧ x.block < w.heap.size ∧ ∀ j v, xs[j]? = some v → w.cell? (x.add j) = some (.int .i64 v) := HY.out.resolve_left (by omega)
      obtain ⟨n, hn⟩ : ∃ n, xs[k]? = some n := ⟨xs[k]'(by omega), by simp [hl, hlt]⟩
      have hc : wr.cell? (x.add k) = some (.int .i64 n) := (hb.cell (by unfold Addr.add; split <;> exact hxb)).trans (hxc k n hn)
      have hd : wr.cell? (y.add k) = some (.int .i64 n) := (hb.cell (by unfold Addr.add; split <;> exact hyb)).trans (hyc k n hn)
      have ek : decide ((k : Int) < (len : Nat)) = true := by rw [decide_eq_true_eq]; omega
      clear hxc hyc hn
      go_wp2_with fail
      go_region
      go_wp2_with fail
      go_roundw
      case rel => exact ⟨k + 1, by omega, by go_num, hb.drew⟩
      case measure => simp [intOf]; omega
    · obtain rfl : k = len := by omega
      go_wp2_with fail
      go_ret
      exact ⟨rfl, hb⟩
theorem walk_ExactFormatRanks (a : Option Addr) (len cap : Nat) (xs : List Int) (w : World) (h : len ≤ 1048576 → Ints w a len xs) (hI : len ≤ 1048576 → I64 xs) (htab : Pow10 w) :
    Calls Tryd.prog 3 #[.slice a len cap] w fun e w' => e = .returned (.bool true) ∧ Below w.heap.size w w' := by
  by_cases hs : len ≤ 1048576
  · have h1 := h hs
    have h2 := hI hs
    have HTab := Lib.hid (Lib.tabBelow_of_tabIs htab)
    clear h hI htab
    go_enter Tryd.func3, Tryd.ntmps3
    go_wp2_with fail
    refine (laws_toIntS a len cap xs _ h1 hs).mono ?_
    rintro e w1 ⟨⟨g1, c1, rfl, k1⟩, hb1⟩
    go_wp2_with fail
    refine (spec_FormatRanks _ len c1 xs _ k1 hs h2).mono ?_
    rintro e w2 ⟨rfl, hb2⟩
    replace hb2 := hb1.trans (hb2.mono hb1.size)
    clear hb1 k1
    go_wp2_with fail
    refine (laws_toIntS a len cap xs _ (h1.keep hb2) hs).mono ?_
    rintro e w3 ⟨⟨g3, c3, rfl, k3⟩, hb3⟩
    replace hb3 := hb2.trans (hb3.mono hb2.size)
    clear hb2
    go_wp2_with fail
    refine (impl_FormatRanks _ len c3 xs _ k3 hs h2 (HTab.out _ hb3)).mono ?_
    rintro e w4 ⟨rfl, hb4⟩
    have k4 := k3.keep hb4
    replace hb4 := hb3.trans (hb4.mono hb3.size)
    clear hb3 k3
    go_wp2_with fail
    refine (laws_toIntS a len cap xs _ (h1.keep hb4) hs).mono ?_
    rintro e w5 ⟨⟨g5, c5, rfl, k5⟩, hb5⟩
    have k6 := k4.keep hb5
    replace hb5 := hb4.trans (hb5.mono hb4.size)
    clear hb4 k4
    go_wp2_with fail
    refine (laws_eqIntS _ _ len c3 c5 xs _ k6 k5 hs).mono ?_
    rintro e w6 ⟨rfl, hb6⟩
    go_wp2_with fail
    go_ret
    exact ⟨rfl, hb5.trans (hb6.mono hb5.size)⟩
  · go_enter Tryd.func3, Tryd.ntmps3
    go_wp2_with fail
    go_ret
    exact ⟨rfl, Below.refl _ _⟩
end Go.Proofs.YtaeibhpkcikaaaaDoor
