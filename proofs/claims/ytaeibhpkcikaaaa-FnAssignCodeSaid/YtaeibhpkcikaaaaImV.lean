/- Assignments of one state, and transformers of functions: the program and the reference. -/
import Derived.Test.YtaeibhpkcikaaaaAsg
import Derived.Test.YtaeibhpkcikaaaaImS
import Derived.Test.YtaeibhpkcikaaaaGP
namespace Go.Proofs.Ytaeibhpkcikaaaa
set_option linter.unusedVariables false
set_option linter.unusedSimpArgs false
open Go.RowKit Go.Shelf
set_option maxRecDepth 100000
set_option maxHeartbeats 4000000

theorem spec_l9Assign {s t : Nat} (hs : s < 4) (ht : t < 4) (w : World) : Calls Try.prog 56 #[.int .i64 s, .int .i64 t] w fun e w' => e = .returned (.string (asgC s t).text) ∧ w = w' := by
  have HT : Hid ((asgC s t).text = ⟨#[65]⟩ ++ txt 4 (asgR s t)) := asgC_text
  have HE : Hid ((⟨#[65]⟩ : ByteArray) = ⟨#[65]⟩ ++ txt 0 (asgR s t)) := rfl
  go_enter Try.func56, Try.ntmps56
  go_wp2_with fail
  go_loop [5, 6] (fun o i => ∃ k : Nat, k ≤ 4 ∧ i = .int .i64 k ∧ o = .string (⟨#[65]⟩ ++ txt k (asgR s t))) (fun _ i => 4 - (intOf i).toNat)
  case atStart => exact ⟨0, by omega, rfl, by rw [← HE.out]⟩
  case round =>
    obtain ⟨k, hk, rfl, rfl⟩ := hrel
    by_cases hlt : k < 4
    · have hc := asgR_c (s := s) ht hlt
      have HX : Hid ((⟨#[65]⟩ ++ txt k (asgR s t)) ++ dgs (asgR s t k) = ⟨#[65]⟩ ++ txt (k + 1) (asgR s t)) := by
        show _ = _; rw [ByteArray.append_assoc, txt_succ]
      by_cases hks : k = s
      · have e0 : ((k : Int) == (s : Int)) = true := by rw [beq_iff_eq, hks]
        have HA : Hid (asgR s t k = wrap64 (2 ^ t)) := by show sh (asgTo s t k) = sh t; unfold asgTo; rw [if_pos hks]
        clear hks
        go_wp2_with fail
        rw [← HA.out]
        refine (spec_l2Digit _ _ hc.1 hc.2).mono ?_
        rintro e w' ⟨rfl, rfl⟩
        have hsz := txt_size k (asgR s t)
        go_wp2_with fail
        go_round
        case rel => exact ⟨k + 1, by omega, by go_num, by rw [HX.out]⟩
        case measure => simp [intOf]; omega
      · have e0 : ((k : Int) == (s : Int)) = false := by rw [beq_eq_false_iff_ne]; omega
        have HA : Hid (asgR s t k = wrap64 (2 ^ k)) := by show sh (asgTo s t k) = sh k; unfold asgTo; rw [if_neg hks]
        clear hks
        go_wp2_with fail
        rw [← HA.out]
        refine (spec_l2Digit _ _ hc.1 hc.2).mono ?_
        rintro e w' ⟨rfl, rfl⟩
        have hsz := txt_size k (asgR s t)
        go_wp2_with fail
        go_round
        case rel => exact ⟨k + 1, by omega, by go_num, by rw [HX.out]⟩
        case measure => simp [intOf]; omega
    · obtain rfl : k = 4 := by omega
      go_wp2_with fail
      go_ret
      rw [HT.out]
      exact ⟨rfl, rfl⟩
theorem spec_AssignCode_yes {s t : Nat} (hs : s < 4) (ht : t < 4) (w : World) : Calls Try.prog 18 #[.int .i64 s, .int .i64 t] w fun e w' => e = .returned (.tuple #[.string (asgC s t).text, .bool true]) ∧ w = w' := by
  have H1 : Hid (stOk (s : Int) = true) := stOk_of hs
  have H2 : Hid (stOk (t : Int) = true) := stOk_of ht
  go_enter Try.func18, Try.ntmps18
  go_wp2_with fail
  refine (spec_l1State _ _).mono ?_
  rintro e w' ⟨rfl, rfl⟩
  rw [H1.out]
  go_wp2_with fail
  refine (spec_l1State _ _).mono ?_
  rintro e w' ⟨rfl, rfl⟩
  rw [H2.out]
  go_wp2_with fail
  refine (spec_l9Assign hs ht _).mono ?_
  rintro e w' ⟨rfl, rfl⟩
  go_wp2_with fail
  go_ret2
  exact ⟨rfl, rfl⟩
theorem spec_AssignCode_no {s t : Int} (h : (stOk s && stOk t) = false) (w : World) : Calls Try.prog 18 #[.int .i64 s, .int .i64 t] w fun e w' => e = .returned (.tuple #[.string ⟨#[]⟩, .bool false]) ∧ w = w' := by
  cases h1 : stOk s
  · have H1 := Lib.hid h1
    clear h h1
    go_enter Try.func18, Try.ntmps18
    go_wp2_with fail
    refine (spec_l1State _ _).mono ?_
    rintro e w' ⟨rfl, rfl⟩
    rw [H1.out]
    go_wp2_with fail
    go_ret2
    exact ⟨rfl, rfl⟩
  · have H1 := Lib.hid h1
    have H2 : Hid (stOk t = false) := by show _ = _; simpa [h1] using h
    clear h h1
    go_enter Try.func18, Try.ntmps18
    go_wp2_with fail
    refine (spec_l1State _ _).mono ?_
    rintro e w' ⟨rfl, rfl⟩
    rw [H1.out]
    go_wp2_with fail
    refine (spec_l1State _ _).mono ?_
    rintro e w' ⟨rfl, rfl⟩
    rw [H2.out]
    go_wp2_with fail
    go_ret2
    exact ⟨rfl, rfl⟩
theorem impl_Assign1 {s t : Nat} (b c : Nat) (w : World) (hb : w.cell? ⟨b, 0, none⟩ = some (.int .i64 s)) (hc : w.cell? ⟨c, 0, none⟩ = some (.int .i64 t)) (x y : Nat) :
    Calls Try.prog 53 #[.int .i64 x, .int .i64 y, .pointer (some ⟨b, 0, none⟩), .pointer (some ⟨c, 0, none⟩)] w fun e w' => e = .returned (.bool (decide (asgTo s t x = y))) ∧ Below w.heap.size w w' := by
  by_cases h1 : x = s
  · have e1 : ((x : Int) == (s : Int)) = true := by rw [beq_iff_eq, h1]
    have e1' : ((x : Int) != (s : Int)) = false := by rw [bne, e1]; rfl
    by_cases h2 : y = t
    · have e2 : ((y : Int) == (t : Int)) = true := by rw [beq_iff_eq, h2]
      have HD : Hid (decide (asgTo s t x = y) = true) := by show _ = _; unfold asgTo; rw [if_pos h1, h2]; simp
      clear h1 h2
      go_enter Try.func53, Try.ntmps53
      go_wp2_with fail
      go_ret
      rw [HD.out]; exact ⟨rfl, Below.refl _ _⟩
    · have e2 : ((y : Int) == (t : Int)) = false := by rw [beq_eq_false_iff_ne]; omega
      have HD : Hid (decide (asgTo s t x = y) = false) := by show _ = _; unfold asgTo; rw [if_pos h1]; simpa using fun h => h2 h.symm
      clear h1 h2
      go_enter Try.func53, Try.ntmps53
      go_wp2_with fail
      go_ret
      rw [HD.out]; exact ⟨rfl, Below.refl _ _⟩
  · have e1 : ((x : Int) == (s : Int)) = false := by rw [beq_eq_false_iff_ne]; omega
    have e1' : ((x : Int) != (s : Int)) = true := by rw [bne, e1]; rfl
    have HD : Hid (decide (asgTo s t x = y) = ((x : Int) == (y : Int))) := by
      show _ = _; unfold asgTo; rw [if_neg h1, Bool.eq_iff_iff]; simp; omega
    clear h1
    go_enter Try.func53, Try.ntmps53
    go_wp2_with fail
    go_ret
    rw [HD.out]; exact ⟨rfl, Below.refl _ _⟩
theorem mk_sh {s t x : Nat} (ht : t < 4) (hx : x < 4) : mk (fun y => decide (asgTo s t x = y)) 4 = asgR s t x := by
  refine C.ext C.mk (asgR_c ht hx) fun i hi => ?_
  rw [has_mk _ (by decide)]
  show _ = has (sh (asgTo s t x)) i
  rw [has_sh (by have := asgTo_lt (s := s) ht hx; omega)]; simp [hi]
theorem impl_AssignCode_yes {s t : Nat} (hs : s < 4) (ht : t < 4) (w : World) : Calls Try.prog 17 #[.int .i64 s, .int .i64 t] w fun e w' => e = .returned (.tuple #[.string (asgC s t).text, .bool true]) ∧ Below w.heap.size w w' := by
  have H1 : Hid (stOk (s : Int) = true) := stOk_of hs
  have H2 : Hid (stOk (t : Int) = true) := stOk_of ht
  have HT : Hid ((asgC s t).text = ⟨#[65]⟩ ++ txt 4 (asgR s t)) := asgC_text
  go_enter Try.func17, Try.ntmps17
  go_wp2_with fail
  refine (impl_stateOk _ _).mono ?_
  rintro e w' ⟨rfl, rfl⟩
  rw [H1.out]
  go_wp2_with fail
  refine (impl_stateOk _ _).mono ?_
  rintro e w' ⟨rfl, rfl⟩
  rw [H2.out]
  go_wp2_with fail
  refine (impl_makeRel _ _ _ (fun x y => decide (asgTo s t x = y)) _ (enters_of Try.func53 (by kernel_rfl) rfl) ?_).mono ?_
  · intro W x y hx hy hb
    refine impl_Assign1 _ _ W ?_ ?_ x y
    · exact cell_grown ((World.cell?_alloc_past _ _ _ (by simp)).trans (World.cell?_alloc_at _ _ _ _ rfl)) hb
    · exact cell_grown (World.cell?_alloc_at _ _ _ _ (by simp)) hb
  rintro e w1 ⟨rfl, hb1⟩
  have hM : cs 4 (fun x => mk (fun y => decide (asgTo s t x = y)) 4) = cs 4 (asgR s t) := cs_ext fun x hx => mk_sh ht hx
  rw [hM]
  clear hM
  have hcr : ∀ k, k < 4 → C (asgR s t k) := fun k hk => asgR_c ht hk
  have hD : cs 4 (asgR s t) = cs 4 (dsF (asgD s t)) := cs_ext fun x hx => (asgD_at s t hx).symm
  have hT4 : txt 4 (asgR s t) = txt 4 (dsF (asgD s t)) := txt_ext fun x hx => (asgD_at s t hx).symm
  rw [hD]
  have R1 : Row (w1.alloc (.cells (cs 4 (dsF (asgD s t))) 76)) w1.heap.size 76 4 (dsF (asgD s t)) := Row.new w1 _ 4 _
  have hDc := dsF_c (asgD_c (s := s) ht)
  have HT2 : Hid ((asgC s t).text = ⟨#[65]⟩ ++ txt 4 (dsF (asgD s t))) := by show _ = _; rw [← hT4]; exact HT.out
  clear hD hT4 hcr HT
  have hsz := txt_size 4 (dsF (asgD s t))
  generalize dsF (asgD s t) = R at *
  have hb2 := below_step (below_new (below_new (Below.refl w.heap.size w) _) _) hb1
  go_wp2_with (first
    | (refine wp_store_New rfl 76 _ _ rfl rfl (f := R) rfl rfl rel_i ?_)
    | (refine wp_load_Row rfl 76 _ rfl w1.heap.size rfl R1 rel_u rfl rel_i ?_))
  refine (impl_rel_text R hDc _).mono ?_
  rintro e w3 ⟨rfl, hb3⟩
  go_wp2_with fail
  go_ret2
  rw [HT2.out]
  exact ⟨rfl, below_step (below_new hb2 _) hb3⟩
theorem impl_AssignCode_no {s t : Int} (h : (stOk s && stOk t) = false) (w : World) : Calls Try.prog 17 #[.int .i64 s, .int .i64 t] w fun e w' => e = .returned (.tuple #[.string ⟨#[]⟩, .bool false]) ∧ Below w.heap.size w w' := by
  have hb : Below w.heap.size w ((w.alloc (Obj.cells #[Value.int IntKind.i64 s] 3)).alloc (Obj.cells #[Value.int IntKind.i64 t] 3)) := below_new (below_new (Below.refl w.heap.size w) _) _
  cases h1 : stOk s
  · have H1 := Lib.hid h1
    clear h h1
    go_enter Try.func17, Try.ntmps17
    go_wp2_with fail
    refine (impl_stateOk _ _).mono ?_
    rintro e w' ⟨rfl, rfl⟩
    rw [H1.out]
    go_wp2_with fail
    go_ret2
    exact ⟨rfl, hb⟩
  · have H1 := Lib.hid h1
    have H2 : Hid (stOk t = false) := by show _ = _; simpa [h1] using h
    clear h h1
    go_enter Try.func17, Try.ntmps17
    go_wp2_with fail
    refine (impl_stateOk _ _).mono ?_
    rintro e w' ⟨rfl, rfl⟩
    rw [H1.out]
    go_wp2_with fail
    refine (impl_stateOk _ _).mono ?_
    rintro e w' ⟨rfl, rfl⟩
    rw [H2.out]
    go_wp2_with fail
    go_ret2
    exact ⟨rfl, hb⟩
/-! ### transformers of functions -/
theorem impl_conj1 (t : Nat → Int) (b : Nat) (w : World) (HT : Row w b 93 16 t) (p q : Nat) (hp : p < 16) (hq : q < 16) :
    Calls Try.prog 154 #[.int .i64 p, .int .i64 q, .pointer (some ⟨b, 0, none⟩)] w fun e w' => e = .returned (.bool (andAt t p q)) ∧ Below w.heap.size w w' := by
  have hc : C (bits .and .i64 (p : Int) (q : Int)) := C.and (c_nat hp) (c_nat hq)
  have h1 := HT.cell p hp
  have h2 := HT.cell q hq
  have h3 := HT.cell (bits .and .i64 (p : Int) (q : Int)).toNat (lt16 hc)
  obtain ⟨h4, h5⟩ := hc
  go_enter Try.func154, Try.ntmps154
  go_wp2_with fail
  go_quiet (fail)
  go_wp2_with fail
  go_ret
  exact ⟨rfl, below_drewN (Below.refl _ _) _⟩
theorem impl_conjunctive (t : Nat → Int) (w : World) :
    Calls Try.prog 105 #[.agg (cs 16 t)] w fun e w' => e = .returned (.bool (orAll (andAt t))) ∧ Below w.heap.size w w' := by
  go_enter Try.func105, Try.ntmps105
  go_wp2_with fail
  refine (impl_pairwise _ _ _ (andAt t) _ (enters_of Try.func154 (by kernel_rfl) rfl) ?_).mono ?_
  · intro W p q hp hq hb
    exact impl_conj1 t _ W ((Row.new w _ 16 t).grown hb) p q hp hq
  rintro e w1 ⟨rfl, hb1⟩
  go_wp2_with fail
  go_ret
  exact ⟨rfl, below_step (below_new (Below.refl _ _) _) hb1⟩
theorem tabT_txt {t : Nat → Int} (ht : Mon t) : tabT (txt 16 t) = val (txt 16 t) := tabT_val ht.tr
theorem val16 {t : Nat → Int} (ht : Mon t) : Eq16 (val (txt 16 t)) t := fun k hk => val_txt 16 t ht.ok k hk
theorem sz16' (t : Nat → Int) : (txt 16 t).size ≤ 4611686018427387904 := by rw [txt_size]; decide
theorem orAll_congr {b c : Nat → Nat → Bool} (h : ∀ p, p < 16 → ∀ q, q < 16 → b p q = c p q) : orAll b = orAll c := by
  rw [Bool.eq_iff_iff]
  exact ⟨fun k => orAll_of fun p hp q hq => by rw [← h p hp q hq]; exact orAll_at k hp hq, fun k => orAll_of fun p hp q hq => by rw [h p hp q hq]; exact orAll_at k hp hq⟩
theorem impl_IsConjunctive {t : Nat → Int} (ht : Mon t) (w : World) : Calls Try.prog 57 #[.string (txt 16 t)] w fun e w' => e = .returned (.bool (orAll (andAt t))) ∧ Below w.heap.size w w' := by
  have H1 := Lib.hid ht.tr
  have H2 := Lib.hid (tabT_txt ht)
  have H3 : Hid (orAll (andAt (val (txt 16 t))) = orAll (andAt t)) := orAll_congr fun p hp q hq => andAt_congr (val16 ht) hp hq
  have hz := sz16' t
  go_enter Try.func57, Try.ntmps57
  go_wp2_with fail
  refine (impl_readTrans _ hz _).mono ?_
  rintro e w1 ⟨rfl, hb1⟩
  rw [H1.out, H2.out]
  have R1 : Row (w1.alloc (.cells (cs 16 (val (txt 16 t))) 93)) w1.heap.size 93 16 (val (txt 16 t)) := Row.new w1 _ 16 _
  go_wp2_with (first
    | (refine wp_store_New rfl 93 _ _ rfl rfl (f := val (txt 16 t)) rfl rfl trans_i ?_)
    | (refine wp_load_RowG (by rfl) 93 _ rfl w1.heap.size rfl R1 trans_u rfl trans_i ?_))
  refine (impl_conjunctive _ _).mono ?_
  rintro e w2 ⟨rfl, hb2⟩
  rw [H3.out]
  go_wp2_with fail
  go_ret
  exact ⟨rfl, below_step (below_new hb1 _) hb2⟩
theorem impl_IsDisjunctive {t : Nat → Int} (ht : Mon t) (w : World) : Calls Try.prog 58 #[.string (txt 16 t)] w fun e w' => e = .returned (.bool (orAll (orAt t))) ∧ Below w.heap.size w w' := by
  have H1 := Lib.hid ht.tr
  have H2 := Lib.hid (tabT_txt ht)
  have H3 : Hid (orAll (orAt (val (txt 16 t))) = orAll (orAt t)) := orAll_congr fun p hp q hq => orAt_congr' (val16 ht) hp hq
  have hz := sz16' t
  go_enter Try.func58, Try.ntmps58
  go_wp2_with fail
  refine (impl_readTrans _ hz _).mono ?_
  rintro e w1 ⟨rfl, hb1⟩
  rw [H1.out, H2.out]
  have R1 : Row (w1.alloc (.cells (cs 16 (val (txt 16 t))) 93)) w1.heap.size 93 16 (val (txt 16 t)) := Row.new w1 _ 16 _
  go_wp2_with (first
    | (refine wp_store_New rfl 93 _ _ rfl rfl (f := val (txt 16 t)) rfl rfl trans_i ?_)
    | (refine wp_load_RowG (by rfl) 93 _ rfl w1.heap.size rfl R1 trans_u rfl trans_i ?_))
  refine (impl_disjunctive _ _).mono ?_
  rintro e w2 ⟨rfl, hb2⟩
  rw [H3.out]
  go_wp2_with fail
  go_ret
  exact ⟨rfl, below_step (below_new hb1 _) hb2⟩
theorem impl_ApplyTrans {t : Nat → Int} (ht : Mon t) {k : Nat} (hk : k < 16) (w : World) : Calls Try.prog 107 #[.string (txt 16 t), .int .i64 k] w fun e w' => e = .returned (.int .i64 (t k)) ∧ Below w.heap.size w w' := by
  have H1 := Lib.hid ht.tr
  have H2 := Lib.hid (tabT_txt ht)
  have H3 := Lib.hid (val16 ht k hk)
  have H4 := Lib.hid (isC_mk (c_nat hk))
  have hz := sz16' t
  go_enter Try.func107, Try.ntmps107
  go_wp2_with fail
  refine (impl_readTrans _ hz _).mono ?_
  rintro e w1 ⟨rfl, hb1⟩
  rw [H1.out, H2.out]
  have R1 : Row (w1.alloc (.cells (cs 16 (val (txt 16 t))) 93)) w1.heap.size 93 16 (val (txt 16 t)) := Row.new w1 _ 16 _
  have hc := R1.cell k hk
  go_wp2_with (refine wp_store_New rfl 93 _ _ rfl rfl (f := val (txt 16 t)) rfl rfl trans_i ?_)
  refine (impl_ConditionValid _ _).mono ?_
  rintro e w' ⟨rfl, rfl⟩
  rw [H4.out]
  go_wp2_with fail
  go_ret
  rw [H3.out]
  exact ⟨rfl, below_new hb1 _⟩
theorem impl_IsStrict {t : Nat → Int} (ht : Mon t) (w : World) : Calls Try.prog 59 #[.string (txt 16 t)] w fun e w' => e = .returned (.bool (t 0 == 0)) ∧ Below w.heap.size w w' := by
  have HA := Lib.hid (fun w => impl_ApplyTrans ht (k := 0) (by decide) w)
  generalize t 0 = n at *
  go_enter Try.func59, Try.ntmps59
  go_wp2_with fail
  refine (HA.out _).mono ?_
  rintro e w1 ⟨rfl, hb1⟩
  go_wp2_with fail
  go_ret
  exact ⟨rfl, hb1⟩
theorem impl_IsTerminating {t : Nat → Int} (ht : Mon t) (w : World) : Calls Try.prog 60 #[.string (txt 16 t)] w fun e w' => e = .returned (.bool (t 15 == 15)) ∧ Below w.heap.size w w' := by
  have HA := Lib.hid (fun w => impl_ApplyTrans ht (k := 15) (by decide) w)
  generalize t 15 = n at *
  go_enter Try.func60, Try.ntmps60
  go_wp2_with fail
  refine (HA.out _).mono ?_
  rintro e w1 ⟨rfl, hb1⟩
  go_wp2_with fail
  go_ret
  exact ⟨rfl, hb1⟩
theorem impl_IsFunctional {s t : Nat} (ht : t < 4) (w : World) : Calls Try.prog 20 #[.string (txt 16 (asgC s t).sem)] w fun e w' => e = .returned (.bool true) ∧ Below w.heap.size w w' := by
  have hm := (asgC s t).mon (asgC_wf ht)
  have H1 := Lib.hid (fun w => impl_IsConjunctive hm w)
  have H2 := Lib.hid (fun w => impl_IsDisjunctive hm w)
  have H3 := Lib.hid (fun w => impl_IsStrict hm w)
  have H4 := Lib.hid (fun w => impl_IsTerminating hm w)
  rw [asg_and ht] at H1
  rw [asg_or ht] at H2
  rw [asg_zero ht] at H3
  rw [asg_all ht] at H4
  generalize txt 16 (asgC s t).sem = T at *
  go_enter Try.func20, Try.ntmps20
  go_wp2_with fail
  refine (H1.out _).mono ?_
  rintro e w1 ⟨rfl, hb1⟩
  go_wp2_with fail
  refine (H2.out _).mono ?_
  rintro e w2 ⟨rfl, hb2⟩
  go_wp2_with fail
  refine (H3.out _).mono ?_
  rintro e w3 ⟨rfl, hb3⟩
  go_wp2_with fail
  refine (H4.out _).mono ?_
  rintro e w4 ⟨rfl, hb4⟩
  go_wp2_with fail
  go_ret
  exact ⟨rfl, below_step (below_step (below_step hb1 hb2) hb3) hb4⟩
end Go.Proofs.Ytaeibhpkcikaaaa
