/- Contracts: the reference's families and what is chosen beside. -/
import Derived.Test.YtildffhpepgjmaaSp11
import Derived.Test.YtildffhpepgjmaaFam
namespace Go.Proofs.Ytildffhpepgjmaa
set_option linter.unusedVariables false
set_option linter.unusedSimpArgs false
open Go.RowKit Go.Shelf
set_option maxRecDepth 100000
set_option maxHeartbeats 1000000

theorem spec_l10Family (t : ByteArray) (s : Nat) (hs : s < 4) (w : World) (H : Hid (okTxt 16 t = true)) : Calls Try.prog 82 #[.string t, .int .i64 s] w fun e w' => e = .returned (.int .i64 (famT (val t) s)) ∧ w = w' := by
  go_enter Try.func82, Try.ntmps82
  go_wp2_with fail
  go_loop [5, 6] (fun o i => ∃ k : Nat, k ≤ 16 ∧ i = .int .i64 k ∧ o = .int .i64 (mk (fun p => has (val t p) s) k)) (fun _ i => 16 - (intOf i).toNat)
  case atStart => exact ⟨0, by omega, rfl, rfl⟩
  case round =>
    obtain ⟨k, hk, rfl, rfl⟩ := hrel
    by_cases hlt : k < 16
    · cases hb : has (val t k) s
      all_goals
        have H1 := Lib.hid hb; clear hb
        go_wp2_with fail
        refine (spec_l3Value _ _ _ H hlt).mono ?_
        rintro e w' ⟨rfl, rfl⟩
        go_wp2_with fail
        refine (spec_l1Has _ _ _ (by omega)).mono ?_
        rintro e w' ⟨rfl, rfl⟩
        rw [H1.out]
        go_wp2_with fail
        go_round
        case rel => exact ⟨k + 1, by omega, by go_num, by simp [mk, orf, H1.out, sh]⟩
        case measure => simp [intOf]; omega
    · obtain rfl : k = 16 := by omega
      go_wp2_with fail
      go_ret
      exact ⟨rfl, rfl⟩

theorem spec_FamilyValid (f : Int) (w : World) (_hf : 0 ≤ f ∧ f ≤ 65535) : Calls Try.prog 123 #[.int .i64 f] w fun e w' => e = .returned (.bool true) ∧ w = w' := by
  go_enter Try.func123, Try.ntmps123
  go_wp2_with fail
  refine (spec_l1In _ _ _ _).mono ?_
  rintro e w' ⟨rfl, rfl⟩
  go_wp2_with fail
  go_ret
  exact ⟨ret_bool (by simp), rfl⟩

theorem spec_l1Up (f : Int) (w : World) : Calls Try.prog 124 #[.int .i64 f] w fun e w' => e = .returned (.int .i64 (closeF f)) ∧ w = w' := by
  go_enter Try.func124, Try.ntmps124
  go_wp2_with fail
  go_loop [3, 4] (fun o i => ∃ k : Nat, k ≤ 16 ∧ i = .int .i64 k ∧ o = .int .i64 (upS f k)) (fun _ i => 16 - (intOf i).toNat)
  case atStart => exact ⟨0, by omega, rfl, rfl⟩
  case round =>
    obtain ⟨k, hk, rfl, rfl⟩ := hrel
    by_cases hlt : k < 16
    · have ek : decide ((k : Int) < 16) = true := by rw [decide_eq_true_eq]; omega
      cases hb : has f k
      · have H1 := Lib.hid hb; clear hb
        go_wp2_with fail
        go_loop [3, 5] (fun o i => i = .int .i64 (0 : Nat) ∧ o = .int .i64 (upS f k)) (fun _ _ => 0)
        case atStart => exact ⟨rfl, rfl⟩
        case round =>
          obtain ⟨rfl, rfl⟩ := hrel
          go_wp2_with fail
          refine (spec_l1Has _ _ _ (by omega)).mono ?_
          rintro e w' ⟨rfl, rfl⟩
          rw [H1.out]
          go_wp2_with fail
          go_round
          case rel => exact ⟨k + 1, by omega, by go_num, by simp [upS, H1.out]⟩
          case measure => simp [intOf]; omega
      · have H1 := Lib.hid hb; clear hb
        go_wp2_with fail
        go_loop [3, 5] (fun o i => ∃ j : Nat, j ≤ 16 ∧ i = .int .i64 j ∧ o = .int .i64 (upIn k (upS f k) j)) (fun _ i => 16 - (intOf i).toNat)
        case atStart => exact ⟨0, by omega, rfl, rfl⟩
        case round =>
          obtain ⟨j, hj, rfl, rfl⟩ := hrel
          by_cases hjt : j < 16
          · cases hz : (bits .andNot .i64 (k : Int) (j : Int) == 0)
            all_goals
              have HZ := Lib.hid hz
              go_wp2_with fail
              refine (spec_l1Has _ _ _ (by omega)).mono ?_
              rintro e w' ⟨rfl, rfl⟩
              rw [H1.out]
              go_wp2_with fail
              go_round
              case rel => exact ⟨j + 1, by omega, by go_num, by simp [upIn, HZ.out, sh]⟩
              case measure => simp [intOf]; omega
          · obtain rfl : j = 16 := by omega
            go_wp2_with fail
            go_round
            case rel => exact ⟨k + 1, by omega, by go_num, by simp [upS, H1.out]⟩
            case measure => simp [intOf]; omega
    · obtain rfl : k = 16 := by omega
      go_wp2_with fail
      go_ret
      exact ⟨ret_int (upS_close f), rfl⟩

theorem spec_TransOf (g cap : Nat) (fam : Nat → Int) (hf : ∀ s, Fit 16 (fam s)) (w : World) (hc : ∀ s, s < 4 → w.cell? ⟨g, s, none⟩ = some (.int .i64 (fam s))) :
    Calls Try.prog 83 #[.slice (some ⟨g, 0, none⟩) 4 cap] w fun e w' => e = .returned (.tuple #[.string (txt 16 (transOfT fam)), .bool true]) ∧ w = w' := by
  have HC := Lib.hid hc; clear hc
  go_enter Try.func83, Try.ntmps83
  go_wp2_with fail
  go_loop [4] (fun i => ∃ k : Nat, k ≤ 4 ∧ i = .int .i64 k) (fun i => 4 - (intOf i).toNat)
  case atStart => exact ⟨0, by omega, rfl⟩
  case round =>
    obtain ⟨k, hk, rfl⟩ := hrel
    by_cases hlt : k < 4
    · have h1 := HC.out k hlt
      go_wp2_with fail
      refine (spec_FamilyValid _ _ (fit16_le (hf k))).mono ?_
      rintro e w' ⟨rfl, rfl⟩
      go_wp2_with fail
      go_round
      case rel => exact ⟨k + 1, by omega, by go_num⟩
      case measure => simp [intOf]; omega
    · obtain rfl : k = 4 := by omega
      go_wp2_with fail
      go_loop [5, 6] (fun o i => ∃ k : Nat, k ≤ 16 ∧ i = .int .i64 k ∧ o = .string (txt k (transOfT fam))) (fun _ i => 16 - (intOf i).toNat)
      case atStart => exact ⟨0, by omega, rfl, rfl⟩
      case round =>
        obtain ⟨k, hk, rfl, rfl⟩ := hrel
        by_cases hlt : k < 16
        · have ek : decide ((k : Int) < 16) = true := by rw [decide_eq_true_eq]; omega
          go_wp2_with fail
          go_loop [7, 8] (fun o i => ∃ j : Nat, j ≤ 4 ∧ i = .int .i64 j ∧ o = .int .i64 (mk (fun s => has (closeF (fam s)) k) j)) (fun _ i => 4 - (intOf i).toNat)
          case atStart => exact ⟨0, by omega, rfl, rfl⟩
          case round =>
            obtain ⟨j, hj, rfl, rfl⟩ := hrel
            by_cases hjt : j < 4
            · have h1 := HC.out j hjt
              cases hb : has (closeF (fam j)) k
              all_goals
                have H1 := Lib.hid hb; clear hb
                go_wp2_with fail
                refine (spec_l1Up _ _).mono ?_
                rintro e w' ⟨rfl, rfl⟩
                go_wp2_with fail
                refine (spec_l1Has _ _ _ (by omega)).mono ?_
                rintro e w' ⟨rfl, rfl⟩
                rw [H1.out]
                go_wp2_with fail
                go_round
                case rel => exact ⟨j + 1, by omega, by go_num, by simp [mk, orf, H1.out, sh]⟩
                case measure => simp [intOf]; omega
            · obtain rfl : j = 4 := by omega
              have hcc := Lib.hid (transOfT_ok fam k)
              go_wp2_with fail
              refine (spec_l2Digit _ _ hcc.out.1 hcc.out.2).mono ?_
              rintro e w' ⟨rfl, rfl⟩
              go_wp2_with fail
              go_round
              case rel => exact ⟨k + 1, by omega, by go_num, congrArg Value.string (txt_succ k (transOfT fam))⟩
              case measure => simp [intOf]; omega
        · obtain rfl : k = 16 := by omega
          go_wp2_with fail
          go_ret2
          exact ⟨rfl, rfl⟩

theorem int_info3 : (Try.prog.info? 3).map (fun i => (i.zero, i.size, i.bytes)) = some (some (.int .i64 0), 1, 8) := by kernel_rfl
def missL (t u : Nat → Int) (k : Nat) : List Value := (List.range k).map fun s => .int .i64 (missT t u s)
theorem missL_succ (t u : Nat → Int) (k : Nat) : missL t u (k + 1) = missL t u k ++ [.int .i64 (missT t u k)] := by simp [missL, List.range_succ]
theorem owned_slice {w : World} {base : Nat} {e : TypeId} {v : Value} {n : Nat} {t u : Nat → Int} (h : w.ownsRow base e 1 v n (missL t u n)) (hne : v ≠ .slice none 0 0) :
    ∃ g cap, v = .slice (some ⟨g, 0, none⟩) n cap ∧ ∀ s, s < n → w.cell? ⟨g, s, none⟩ = some (.int .i64 (missT t u s)) := by
  rcases h.2 with ⟨rfl, _⟩ | ⟨g, cap, cur, rfl, _⟩
  · exact absurd rfl hne
  · refine ⟨g, cap, rfl, fun s hs => ?_⟩
    have h1 := World.ownsRow.cells h (g := g) rfl s (.int .i64 (missT t u s)) (by simp [missL, hs])
    have h2 : (⟨g, 0, none⟩ : Addr).add s = ⟨g, s, none⟩ := by unfold Addr.add; split <;> simp_all
    rwa [h2] at h1

theorem spec_BesideAngel (t u : ByteArray) (w : World) (ht : t.size ≤ 4611686018427387904) (hu : u.size ≤ 4611686018427387904) :
    Calls Try.prog 34 #[.string t, .string u] w fun e w' => e = .returned (.tuple #[.string (orNone (okTr t && okTr u) (txt 16 (besideT (val t) (val u)))), .bool (okTr t && okTr u)]) ∧ Below w.heap.size w w' := by
  cases hb : okTr t && okTr u
  · have H := Lib.hid hb; clear hb
    go_enter Try.func34, Try.ntmps34
    go_wp2_with fail
    refine (spec_l3Both _ _ _ ht hu).mono ?_
    rintro e w' ⟨rfl, rfl⟩
    rw [H.out]
    go_wp2_with fail
    go_ret2
    exact ⟨rfl, Below.refl _ _⟩
  · have H := Lib.hid hb; clear hb
    have hh : okTr t = true ∧ okTr u = true := by have := H.out; simpa using this
    have HT := Lib.hid (okTr_txt hh.1)
    have HU := Lib.hid (okTr_txt hh.2)
    clear hh
    go_enter Try.func34, Try.ntmps34
    go_wp2_with fail
    refine (spec_l3Both _ _ _ ht hu).mono ?_
    rintro e w' ⟨rfl, rfl⟩
    rw [H.out]
    obtain ⟨i0, hi, hz0, hz1, hz2⟩ := info_parts int_info3
    have hw0 : (w.alloc (Obj.cells #[] 3)).ownsRow w.heap.size 3 1 (.slice (some ⟨w.heap.size, 0, none⟩) 0 0) 0 [] := World.ownsRow_made w #[] 0 (Nat.le_refl _) (by decide) rfl
    have hb0 : Below w.heap.size w (w.alloc (Obj.cells #[] 3)) := below_new (Below.refl _ _) _
    go_wp2_with fail
    go_loopw [6, 7] (fun v i wr => ∃ k : Nat, k ≤ 4 ∧ i = .int .i64 k ∧ wr.ownsRow w.heap.size 3 1 v k (missL (val t) (val u) k) ∧ v ≠ .slice none 0 0 ∧ Below w.heap.size w wr) (fun _ i _ => 4 - (intOf i).toNat)
    case atStart => exact ⟨0, by omega, rfl, hw0, by simp, hb0⟩
    case round =>
      obtain ⟨k, hk, rfl, hown, hne, hb⟩ := hrel
      clear hw0 hb0
      by_cases hlt : k < 4
      · go_wp2_with fail
        refine (spec_l10Family _ _ hlt _ HU).mono ?_
        rintro e w' ⟨rfl, rfl⟩
        go_wp2_with fail
        go_wp2_with fail
        refine (spec_l10Family _ _ hlt _ HT).mono ?_
        rintro e w' ⟨rfl, rfl⟩
        go_wp2_with (first
          | (at_builtin; refine wpList_append_own _ rfl _ _ _ rfl w.heap.size 3 i0 (.int .i64 0) 1 8 (by kernel_rfl) hi hz0 hz1 hz2 rfl (by decide) _ _ _ rfl (hown.alloc _) ⟨wr.heap.size, 0, none⟩ 1 1 [.int .i64 (missT (val t) (val u) k)] rfl rfl ?c1 ?c2 ?c3 ?c4 ?c5 ?_)
          | go_in)
        case c1 =>
          intro j x hj
          match j, hj with
          | 0, hj => simp at hj; subst hj; simp [Addr.add, missT]
        case c2 => intro x hx; simp at hx; subst hx; rfl
        case c3 => unfold maxLen; omega
        case c4 => omega
        case c5 => have := hb.size; simp; omega
        intro v' w1 hown' hgrow hnil
        have hb' : Below w.heap.size w w1 := (below_new hb _).grown hgrow (by have := hb.size; simp; omega) (fun k hk => (hown.lt k hk).1)
        rw [← missL_succ] at hown'
        go_wp2_with fail
        go_roundw
        case rel => exact ⟨k + 1, by omega, by go_num, hown', hnil, hb'⟩
        case measure => simp [intOf]; omega
      · obtain rfl : k = 4 := by omega
        obtain ⟨g, cap, rfl, hg⟩ := owned_slice hown hne
        go_wp2_with fail
        refine (spec_TransOf g cap (missT (val t) (val u)) (missT_fit _ _) _ hg).mono ?_
        rintro e w' ⟨rfl, rfl⟩
        go_wp2_with fail
        go_ret2
        exact ⟨rfl, hb⟩

theorem spec_BesideDemon (t u : ByteArray) (w : World) (ht : t.size ≤ 4611686018427387904) (hu : u.size ≤ 4611686018427387904) :
    Calls Try.prog 36 #[.string t, .string u] w fun e w' => e = .returned (.tuple #[.string (orNone (okTr t && okTr u) (txt 16 (besideD (val t) (val u)))), .bool (okTr t && okTr u)]) ∧ Below w.heap.size w w' := by
  cases hb : okTr t && okTr u
  · have H := Lib.hid hb; clear hb
    go_enter Try.func36, Try.ntmps36
    go_wp2_with fail
    refine (spec_l3Both _ _ _ ht hu).mono ?_
    rintro e w' ⟨rfl, rfl⟩
    rw [H.out]
    go_wp2_with fail
    go_ret2
    exact ⟨rfl, Below.refl _ _⟩
  · have H := Lib.hid hb; clear hb
    have hh : okTr t = true ∧ okTr u = true := by have := H.out; simpa using this
    have HT := Lib.hid (okTr_txt hh.1)
    have HU := Lib.hid (okTr_txt hh.2)
    have hv : (okTr (txt 16 (dualT (val t))) && okTr (txt 16 (dualT (val u)))) = true := by
      rw [okTr_of (dualT_ok (val_ok _)) (mono_dual (val_ok _) (okTr_mono hh.1)), okTr_of (dualT_ok (val_ok _)) (mono_dual (val_ok _) (okTr_mono hh.2))]; rfl
    clear hh
    have HV := Lib.hid hv; clear hv
    go_enter Try.func36, Try.ntmps36
    go_wp2_with fail
    refine (spec_l3Both _ _ _ ht hu).mono ?_
    rintro e w' ⟨rfl, rfl⟩
    rw [H.out]
    go_wp2_with fail
    refine (spec_l3Dual _ _ HT).mono ?_
    rintro e w' ⟨rfl, rfl⟩
    go_wp2_with fail
    refine (spec_l3Dual _ _ HU).mono ?_
    rintro e w' ⟨rfl, rfl⟩
    go_wp2_with fail
    refine (spec_BesideAngel _ _ _ (by rw [txt_size]; omega) (by rw [txt_size]; omega)).mono ?_
    rintro e w' ⟨rfl, hb⟩
    rw [HV.out]
    go_wp2_with fail
    have e0 : ∀ x, orNone true x = x := fun _ => rfl
    rw [e0]
    refine (spec_l3Dual _ _ (hid_txt (besideT_ok _ _))).mono ?_
    rintro e w' ⟨rfl, rfl⟩
    go_wp2_with fail
    go_ret2
    refine ⟨?_, hb⟩
    have e1 := Eq16.beside (eq16_txt (dualT_ok (val_ok t))) (eq16_txt (dualT_ok (val_ok u)))
    have e2 := Eq16.dual ((eq16_txt (besideT_ok (val (txt 16 (dualT (val t)))) (val (txt 16 (dualT (val u)))))).trans e1)
    rw [e2.txt]; rfl
end Go.Proofs.Ytildffhpepgjmaa
