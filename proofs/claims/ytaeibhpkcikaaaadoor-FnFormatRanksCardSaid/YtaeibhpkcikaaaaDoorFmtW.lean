/- The text of numbers: the reference and the program. -/
import Derived.Test.YtaeibhpkcikaaaaDoorFmt
import Derived.Test.YtaeibhpkcikaaaaDoorShelfD
import Derived.Test.YtaeibhpkcikaaaaDoorChecked
import Derived.Laws.IdiomStrings
import Derived.BigQuiet
import Derived.BigRegion
import Derived.RegionTactic
import Derived.Deep.QuietTactic
import Derived.Maps.AppendAt
import Derived.OwnWalk
import Derived.Lib.AppendIntMem
namespace Go.Proofs.YtaeibhpkcikaaaaDoor
set_option linter.unusedVariables false
set_option linter.unusedSimpArgs false
open Go.RowKit Go.Shelf
set_option maxRecDepth 100000
set_option maxHeartbeats 4000000

theorem conv_byteD (n : Int) (b : UInt8) (hb : (b.toNat : Int) = n) (W : World) : (convert 27 9 (.slice (some ⟨W.heap.size, 0, none⟩) 1 1)).run Tryd.prog (W.alloc (Obj.cells #[.int .u8 n] 5)) = .ok (.string ⟨#[b]⟩) (W.alloc (Obj.cells #[.int .u8 n] 5)) :=
  run_convert_bytes_back (P := Tryd.prog) _ 27 9 5 ⟨W.heap.size, 0, none⟩ 1 [b] Tryd.underlying27 Tryd.underlying5 Tryd.underlying9 (fun j hj => by
    obtain rfl : j = 0 := by simp at hj; exact hj
    simp [Addr.add, hb])
theorem digB (m : Nat) (h : m < 10) : ((UInt8.ofNat (48 + m)).toNat : Int) = 48 + (m : Int) := by
  rw [UInt8.toNat_ofNat']; omega
theorem arr_app (b : UInt8) (l : List UInt8) : (⟨#[b]⟩ : ByteArray) ++ ⟨l.toArray⟩ = ⟨(b :: l).toArray⟩ := by
  apply ByteArray.ext; apply Array.ext'; simp
theorem arr_app2 (m : Nat) (l : List UInt8) : (⟨#[48 + UInt8.ofNat m]⟩ : ByteArray) ++ ⟨l.toArray⟩ = ⟨(UInt8.ofNat (48 + m) :: l).toArray⟩ := by
  have e : (48 : UInt8) + UInt8.ofNat m = UInt8.ofNat (48 + m) := by rw [UInt8.ofNat_add]; rfl
  rw [e]; exact arr_app _ _
theorem arr_app0 (l : List UInt8) : (⟨#[]⟩ : ByteArray) ++ ⟨l.toArray⟩ = ⟨l.toArray⟩ := by
  apply ByteArray.ext; apply Array.ext'; simp
theorem arr_app3 (l m : List UInt8) : (⟨l.toArray⟩ : ByteArray) ++ ⟨#[32]⟩ ++ ⟨m.toArray⟩ = ⟨(l ++ ([32] ++ m)).toArray⟩ := by
  apply ByteArray.ext; apply Array.ext'; simp
theorem addr_zero (x : Addr) : x.add 0 = x := by
  obtain ⟨b, o, s⟩ := x
  unfold Addr.add
  cases s <;> simp
theorem spec_l14DecN (u : Nat) (hu : u ≤ 9223372036854775807) (w : World) : Calls Tryd.prog 10 #[.int .i64 u] w fun e w' => e = .returned (.string ⟨(Lib.decDigits u).toArray⟩) ∧ Below w.heap.size w w' := by
  have h1 : ¬ (u : Int) < -9223372036854775807 := by omega
  have h2 : ¬ (u : Int) < 0 := by omega
  have hlen := decDigits_le 18 u (Nat.lt_of_le_of_lt hu (by decide))
  go_enter Tryd.func10, Tryd.ntmps10
  go_wp2_with fail
  go_loopw [0, 3] (fun a o wr => ∃ (m : Nat) (ds : List UInt8), m ≤ u ∧ a = .int .i64 m ∧ o = .string ⟨ds.toArray⟩ ∧ Hid (Lib.decDigits u = Lib.decDigits m ++ ds) ∧ Below w.heap.size w wr) (fun a _ _ => (intOf a).toNat)
  case atStart => exact ⟨u, [], Nat.le_refl _, rfl, rfl, (by show _ = _; simp), Below.refl _ _⟩
  case round =>
    obtain ⟨m, ds, hm, rfl, rfl, HD, hb⟩ := hrel
    have hds : ds.length ≤ 19 := by
      have := congrArg List.length HD.out
      rw [List.length_append] at this; omega
    have hdz : (⟨ds.toArray⟩ : ByteArray).size = ds.length := by show ds.toArray.size = _; simp
    by_cases h9 : m < 10
    · have e9 : ¬ (9 : Int) < (m : Int) := by omega
      have hB := digB m h9
      have hc := conv_byteD (48 + (m : Int)) _ hB
      go_wp2_with fail
      go_ret
      refine ⟨?_, below_new hb _⟩
      rw [arr_app2, HD.out, decDigits_small h9]; rfl
    · have e9 : (9 : Int) < (m : Int) := by omega
      have hB := digB (m % 10) (Nat.mod_lt _ (by decide))
      have hc := conv_byteD (48 + ((m % 10 : Nat) : Int)) _ hB
      push_cast at hc
      go_wp2_with fail
      refine ⟨⟨m / 10, UInt8.ofNat (48 + m % 10) :: ds, by omega, by push_cast; rfl, by rw [arr_app2], (by show _ = _; rw [HD.out, decDigits_big h9]; simp), below_new hb _⟩, by simp [intOf]; omega⟩
theorem spec_l14DecI (n : Int) (h0 : -9223372036854775808 ≤ n) (h1 : n ≤ 9223372036854775807) (w : World) : Calls Tryd.prog 10 #[.int .i64 n] w fun e w' => e = .returned (.string ⟨(Lib.itoa n).toArray⟩) ∧ Below w.heap.size w w' := by
  by_cases hn : n < 0
  · by_cases hm : n < -9223372036854775807
    · obtain rfl : n = -9223372036854775808 := by omega
      have HM : Hid ((⟨(Lib.itoa (-9223372036854775808)).toArray⟩ : ByteArray) = ⟨#[45, 57, 50, 50, 51, 51, 55, 50, 48, 51, 54, 56, 53, 52, 55, 55, 53, 56, 48, 56]⟩) := by show _ = _; rw [minNum]
      rw [HM.out]
      go_enter Tryd.func10, Tryd.ntmps10
      go_wp2_with fail
      go_ret
      exact ⟨rfl, Below.refl _ _⟩
    · obtain ⟨u, hu⟩ : ∃ u : Nat, (u : Int) = -n := ⟨n.natAbs, by omega⟩
      have hu2 : u ≤ 9223372036854775807 := by omega
      have HN := Lib.hid (itoa_neg hn u hu)
      have HC := Lib.hid (fun w => spec_l14DecN u hu2 w)
      have hlen := decDigits_le 18 u (Nat.lt_of_le_of_lt hu2 (by decide))
      have hdz : (⟨(Lib.decDigits u).toArray⟩ : ByteArray).size = (Lib.decDigits u).length := by show (Lib.decDigits u).toArray.size = _; simp
      have hnu : n = -(u : Int) := by omega
      subst hnu
      have hu0 : (0 : Int) < u := by omega
      rw [HN.out]
      clear HN hu
      generalize Lib.decDigits u = D at *
      go_enter Tryd.func10, Tryd.ntmps10
      go_wp2_with fail
      refine (HC.out _).mono ?_
      rintro e w1 ⟨rfl, hb1⟩
      go_wp2_with fail
      go_ret
      exact ⟨rfl, hb1⟩
  · obtain ⟨u, rfl⟩ := Int.eq_ofNat_of_zero_le (by omega : 0 ≤ n)
    have h := spec_l14DecN u (by omega) w
    rwa [← itoa_nat u] at h
/-- a list of numbers in memory -/
def Ints (w : World) (a : Option Addr) (len : Nat) (xs : List Int) : Prop := xs.length = len ∧ (len = 0 ∨ ∃ x, a = some x ∧ x.block < w.heap.size ∧ ∀ j v, xs[j]? = some v → w.cell? (x.add j) = some (.int .i64 v))
theorem Ints.keep {w w' : World} {a : Option Addr} {len : Nat} {xs : List Int} (h : Ints w a len xs) (hb : Below w.heap.size w w') : Ints w' a len xs := by
  refine ⟨h.1, ?_⟩
  rcases h.2 with h2 | ⟨x, h1, h2, h3⟩
  · exact .inl h2
  · exact .inr ⟨x, h1, Nat.lt_of_lt_of_le h2 hb.size, fun j v hj => (hb.cell (by unfold Addr.add; split <;> exact h2)).trans (h3 j v hj)⟩
theorem spec_FormatRanks (a : Option Addr) (len cap : Nat) (xs : List Int) (w : World) (h : Ints w a len xs) (hlen : len ≤ 1048576) (hI : I64 xs) :
    Calls Tryd.prog 5 #[.slice a len cap] w fun e w' => e = .returned (.string (fmtB xs)) ∧ Below w.heap.size w w' := by
  obtain ⟨hl, hx⟩ := h
  have HB : Hid (fmtB xs = if xs = [] then ⟨#[45]⟩ else ⟨(fmtL xs).toArray⟩) := rfl
  by_cases hne0 : len = 0
  · subst hne0
    clear hx
    obtain rfl := List.length_eq_zero_iff.1 hl
    rw [HB.out, if_pos rfl]
    go_enter Tryd.func5, Tryd.ntmps5
    go_wp2_with fail
    go_loop [3, 4] (fun o i => i = .int .i64 0 ∧ o = .string ⟨#[]⟩) (fun _ _ => 0)
    case atStart => exact ⟨rfl, rfl⟩
    case round =>
      obtain ⟨rfl, rfl⟩ := hrel
      go_wp2_with fail
      go_ret
      exact ⟨rfl, Below.refl _ _⟩
  · obtain ⟨x, rfl, hxb, hcell⟩ : ∃ x, a = some x ∧ x.block < w.heap.size ∧ ∀ j v, xs[j]? = some v → w.cell? (x.add j) = some (.int .i64 v) := hx.resolve_left hne0
    have HCell := Lib.hid hcell
    clear hx
    go_enter Tryd.func5, Tryd.ntmps5
    go_wp2_with fail
    go_loopw [3, 4] (fun o i wr => ∃ k : Nat, k ≤ len ∧ i = .int .i64 k ∧ o = .string ⟨(fmtL (xs.take k)).toArray⟩ ∧ Below w.heap.size w wr) (fun _ i _ => len - (intOf i).toNat)
    case atStart => exact ⟨0, by omega, rfl, rfl, Below.refl _ _⟩
    case round =>
      obtain ⟨k, hk, rfl, rfl, hb⟩ := hrel
      have hsz : (⟨(fmtL (xs.take k)).toArray⟩ : ByteArray).size = (fmtL (xs.take k)).length := by show (fmtL (xs.take k)).toArray.size = _; simp
      have hle := fmtL_le (xs.take k) (hI.take k)
      have hle2 : (xs.take k).length ≤ 1048576 := by rw [List.length_take]; omega
      have hF : (fmtL (xs.take k)).length ≤ 30000000 := by omega
      clear hle hle2
      by_cases hlt : k < len
      · obtain ⟨n, hn⟩ : ∃ n, xs[k]? = some n := ⟨xs[k]'(by omega), by simp [hl, hlt]⟩
        have hi := hI n (List.mem_of_getElem? hn)
        have hc : wr.cell? (x.add k) = some (.int .i64 n) := (hb.cell (by unfold Addr.add; split <;> exact hxb)).trans (HCell.out k n hn)
        have HT := Lib.hid (fmtL_take xs k n hn)
        have hil := itoa_le hi.1 hi.2
        have hiz : (⟨(Lib.itoa n).toArray⟩ : ByteArray).size = (Lib.itoa n).length := by show (Lib.itoa n).toArray.size = _; simp
        have HDec := Lib.hid (fun w => spec_l14DecI n hi.1 hi.2 w)
        have ek : decide ((k : Int) < (len : Nat)) = true := by rw [decide_eq_true_eq]; omega
        clear hn
        by_cases hk0 : k = 0
        · subst hk0
          rw [if_pos rfl] at HT
          have hc0 : wr.cell? x = some (.int .i64 n) := by rw [addr_zero] at hc; exact hc
          go_wp2_with fail
          refine (HDec.out _).mono ?_
          rintro e w1 ⟨rfl, hb1⟩
          generalize Lib.itoa n = N at *
          rw [show fmtL (xs.take 0) = [] from rfl]
          go_wp2_with fail
          refine ⟨⟨0 + 1, by omega, rfl, by rw [HT.out]; exact congrArg Value.string (arr_app0 N), below_step hb hb1⟩, by simp [intOf]; omega⟩
        · rw [if_neg hk0] at HT
          have hk1 : (0 : Int) < (k : Nat) := by omega
          generalize fmtL (xs.take k) = F at *
          go_wp2_with fail
          refine (HDec.out _).mono ?_
          rintro e w1 ⟨rfl, hb1⟩
          generalize Lib.itoa n = N at *
          go_wp2_with fail
          refine ⟨⟨k + 1, by omega, by go_num, by rw [HT.out]; exact congrArg Value.string (arr_app3 F N), below_step hb hb1⟩, by simp [intOf]; omega⟩
      · obtain rfl : k = len := by omega
        have hne : xs ≠ [] := by intro h; subst h; exact hne0 hl.symm
        have ht : xs.take k = xs := by rw [← hl]; exact List.take_length
        rw [ht] at hsz hF ⊢
        have hE : (fmtL xs).isEmpty = false := by
          rw [Bool.eq_false_iff]; intro h; exact fmtL_ne hne (List.isEmpty_iff.1 h)
        have HB2 : Hid (fmtB xs = ⟨(fmtL xs).toArray⟩) := by show _ = _; rw [HB.out, if_neg hne]
        clear HB hne ht
        go_wp2_with fail
        go_ret
        rw [HB2.out]
        exact ⟨rfl, hb⟩
theorem string_infoD : (Tryd.prog.info? 9).map (fun i => (i.zero, i.size, i.bytes)) = some (some (.string ⟨#[]⟩), 1, 16) := by kernel_rfl
def numS (n : Int) : ByteArray := ⟨(Lib.itoa n).toArray⟩
def strS (l : List Int) : List Value := l.map fun n => .string (numS n)
def Pow10 (w : World) : Prop := Lib.TabIs Tryd.prog w "internal/strconv.uint64pow10" .u64 Lib.pow10Tab
theorem join_numS (xs : List Int) : Lib.join ((xs.map numS).map (·.data.toList)) (⟨#[32]⟩ : ByteArray).data.toList = fmtL xs := by
  unfold fmtL; rw [List.map_map]; rfl
theorem own_belowD {w w' : World} {B : Nat} {e : TypeId} {size : Nat} {v : Value} {n : Nat} {xs : List Value} (h : w.ownsRow B e size v n xs) (hb : Below w.heap.size w w') : w'.ownsRow B e size v n xs :=
  h.kept (row := none) ⟨hb.os, hb.tape, hb.output, hb.size, fun k hk _ => hb.block k hk⟩ (by cases v.ownBlock <;> simp)
theorem owned_strs {w : World} {base : Nat} {e : TypeId} {v : Value} {n : Nat} {l : List Int} (h : w.ownsRow base e 1 v n (strS l)) (hne : v ≠ .slice none 0 0) :
    ∃ g cap, v = .slice (some ⟨g, 0, none⟩) n cap ∧ g < w.heap.size ∧ n ≤ cap ∧ ∀ (j : Nat) (y : ByteArray), (l.map numS)[j]? = some y → w.cell? ⟨g, j, none⟩ = some (.string y) := by
  rcases h.2 with ⟨rfl, _⟩ | ⟨g, cap, cur, rfl, _, hg, hcap, _⟩
  · exact absurd rfl hne
  · refine ⟨g, cap, rfl, (Array.getElem?_eq_some_iff.1 hg).1, hcap, fun j y hj => ?_⟩
    have h1 := World.ownsRow.cells h (g := g) rfl j (.string y) (by
      simp only [strS, List.getElem?_map] at hj ⊢
      cases hl : l[j]? with
      | none => simp [hl] at hj
      | some z => simp [hl] at hj ⊢; exact hj)
    have h2 : (⟨g, 0, none⟩ : Addr).add j = ⟨g, j, none⟩ := by unfold Addr.add; split <;> simp_all
    rwa [h2] at h1
theorem impl_FormatRanks (a : Option Addr) (len cap : Nat) (xs : List Int) (w : World) (h : Ints w a len xs) (hlen : len ≤ 1048576) (hI : I64 xs) (htab : Pow10 w) :
    Calls Tryd.prog 7 #[.slice a len cap] w fun e w' => e = .returned (.string (fmtB xs)) ∧ Below w.heap.size w w' := by
  obtain ⟨hl, hx⟩ := h
  by_cases hne0 : len = 0
  · subst hne0
    clear hx
    obtain rfl := List.length_eq_zero_iff.1 hl
    have HB : Hid (fmtB [] = ⟨#[45]⟩) := rfl
    rw [HB.out]
    go_enter Tryd.func7, Tryd.ntmps7
    go_wp2_with fail
    go_ret
    exact ⟨rfl, Below.refl _ _⟩
  · obtain ⟨x, rfl, hxb, hcell⟩ : ∃ x, a = some x ∧ x.block < w.heap.size ∧ ∀ j v, xs[j]? = some v → w.cell? (x.add j) = some (.int .i64 v) := hx.resolve_left hne0
    have HCell := Lib.hid hcell
    have HTab := Lib.hid (Lib.tabBelow_of_tabIs htab)
    clear hx hcell htab
    have hne : xs ≠ [] := by intro h; subst h; exact hne0 hl.symm
    have HB : Hid (fmtB xs = ⟨(fmtL xs).toArray⟩) := by show fmtB xs = _; unfold fmtB; rw [if_neg hne]
    have hle := fmtL_le xs hI
    have e0 : ((len : Int) == 0) = false := by rw [beq_eq_false_iff_ne]; omega
    obtain ⟨i0, hi, hz0, hz1, hz2⟩ := info_parts string_infoD
    have hw0 : (w.alloc (Obj.cells #[] 9)).ownsRow w.heap.size 9 1 (.slice (some ⟨w.heap.size, 0, none⟩) 0 0) 0 [] := World.ownsRow_made w #[] 0 (Nat.le_refl _) (by decide) rfl
    have hb0 : Below w.heap.size w (w.alloc (Obj.cells #[] 9)) := Below.alloc (Below.refl _ _) (Nat.le_refl _) _
    go_enter Tryd.func7, Tryd.ntmps7
    go_wp2_with fail
    go_loopw [3, 12] (fun v i wr => ∃ k : Nat, k ≤ len ∧ i = .int .i64 k ∧ wr.ownsRow w.heap.size 9 1 v k (strS (xs.take k)) ∧ v ≠ .slice none 0 0 ∧ Below w.heap.size w wr) (fun _ i _ => len - (intOf i).toNat)
    case atStart => exact ⟨0, by omega, rfl, hw0, by simp, hb0⟩
    case round =>
      obtain ⟨k, hk, rfl, hown, hnn, hb⟩ := hrel
      clear hw0 hb0
      by_cases hlt : k < len
      · obtain ⟨n, hn⟩ : ∃ n, xs[k]? = some n := ⟨xs[k]'(by omega), by simp [hl, hlt]⟩
        have hin := hI n (List.mem_of_getElem? hn)
        have hc : wr.cell? (x.add k) = some (.int .i64 n) := (hb.cell (by unfold Addr.add; split <;> exact hxb)).trans (HCell.out k n hn)
        have ek : decide ((k : Int) < (len : Nat)) = true := by rw [decide_eq_true_eq]; omega
        have HT : Hid (strS (xs.take k) ++ [.string (numS n)] = strS (xs.take (k + 1))) := by
          show _ = _; obtain ⟨hk', rfl⟩ := List.getElem?_eq_some_iff.1 hn
          rw [List.take_succ_eq_append_getElem hk']; unfold strS; rw [List.map_append]; rfl
        have HDec := Lib.hid (Tryd.strconv_Itoa n hin.1 hin.2 wr (HTab.out wr hb))
        clear hn
        go_wp2_with fail
        refine HDec.out.mono ?_
        rintro e w1 ⟨rfl, kk, os, rfl⟩
        have hbg := Lib.below_grow wr.heap.size wr (Nat.le_refl _) kk os
        generalize Sort.grow (wr.drewN kk) os = w1 at *
        have hb1 : Below w.heap.size w w1 := hb.trans (hbg.mono hb.size)
        have hown1 := own_belowD hown hbg
        clear hown hbg hb hc
        have e9 : (⟨(Lib.itoa n).toArray⟩ : ByteArray) = numS n := rfl
        rw [e9]
        generalize hN : numS n = N at *
        clear hN e9
        go_wp2_with (first
          | (at_builtin; refine wpList_append_own _ rfl _ _ _ rfl w.heap.size 9 i0 (.string ⟨#[]⟩) 1 16 (by kernel_rfl) hi hz0 hz1 hz2 rfl (by decide) _ _ _ rfl (hown1.alloc _) ⟨w1.heap.size, 0, none⟩ 1 1 [.string N] rfl rfl ?c1 ?c2 ?c3 ?c4 ?c5 ?_)
          | go_in)
        case c1 =>
          intro j y hj
          match j, hj with
          | 0, hj => simp at hj; subst hj; simp [Addr.add]
        case c2 => intro y hy; simp at hy; subst hy; rfl
        case c3 => unfold maxLen; omega
        case c4 => omega
        case c5 => have := hb1.size; simp; omega
        intro v' w2 hown' hgrow hnil
        have hb2 : Below w.heap.size w w2 := (Below.alloc hb1 hb1.size _).grown hgrow (by have := hb1.size; simp; omega) (fun k hk => (hown1.lt k hk).1)
        rw [HT.out] at hown'
        go_wp2_with fail
        refine ⟨⟨k + 1, by omega, by go_num, hown', by simpa using hnil, hb2⟩, by simp [intOf]; omega⟩
      · obtain rfl : k = len := by omega
        have ht : xs.take k = xs := by rw [← hl]; exact List.take_length
        rw [ht] at hown
        obtain ⟨g, cap2, rfl, hgb, hcap, hcells⟩ := owned_strs hown hnn
        have HJ := Lib.hid (Tryd.strings_Join g 0 cap2 (xs.map numS) ⟨#[32]⟩ wr (fun j y hj => by rw [Nat.zero_add]; exact hcells j y hj) hgb (by rw [List.length_map]; omega) (by rw [List.length_map, hl]; exact hcap) (by rw [join_numS]; omega))
        rw [join_numS, List.length_map, hl] at HJ
        go_wp2_with fail
        refine HJ.out.mono ?_
        rintro e w1 ⟨rfl, hb1⟩
        go_wp2_with fail
        go_ret
        rw [HB.out]
        exact ⟨rfl, hb.trans (hb1.mono hb.size)⟩
end Go.Proofs.YtaeibhpkcikaaaaDoor
