/- Contracts: the program's reading of whole contracts, and their transformers (printed by mk5f.py). -/
import Derived.Test.YtaeibhpkcikaaaaGreatDoorIm5b
import Derived.Test.YtaeibhpkcikaaaaGreatDoorGI
import Derived.Test.YtaeibhpkcikaaaaGreatDoorSp5d
namespace Go.Proofs.YtaeibhpkcikaaaaGreatDoor
set_option linter.unusedVariables false
set_option linter.unusedSimpArgs false
open Go.RowKit Go.Shelf
set_option maxRecDepth 100000
set_option maxHeartbeats 1000000

/-- what reading a text comes to -/
def RdCt (c : ByteArray) (w : World) (e : Ending) (w' : World) : Prop :=
  ((∃ (t : Ct) (b : Nat), t.WF ∧ c = t.text ∧ t.len ≤ 200 ∧ e = .returned (.pointer (some ⟨b, 0, none⟩)) ∧ Tree w' (fun q => w.heap.size ≤ q) t b) ∨ (isCt c = false ∧ e = .returned (.pointer none))) ∧ Below w.heap.size w w'
theorem isCt_text {t : Ct} (h : t.WF) (hl : t.len ≤ 200) : isCt t.text = true := isCt_iff.2 ⟨t, h, rfl, by rw [t.text_size]; exact hl⟩
theorem impl_read (c : ByteArray) (hc : c.size ≤ 4611686018427387904) (w : World) : Calls Tryz.prog 20 #[.string c] w (RdCt c w) := by
  by_cases hs : c.size ≤ 200
  · go_enter Tryz.func20, Tryz.ntmps20
    go_wp2_with fail
    refine (impl_readFrom c hs c.size 0 (by omega) _ _ rfl).mono ?_
    rintro e w1 ⟨⟨t, b, ht, hl, rfl, hT⟩ | ⟨hno, rfl⟩, hb1⟩
    · rw [Nat.zero_add]
      by_cases he : t.len = c.size
      · have hw := lies_whole hl he
        have e0 : ((t.len : Int) != (c.size : Int)) = false := by simp [he]
        go_wp2_with fail
        go_ret
        exact ⟨.inl ⟨t, b, ht, hw, by omega, rfl, hT⟩, hb1⟩
      · have e0 : ((t.len : Int) != (c.size : Int)) = true := by simp; omega
        have hv : isCt c = false := by
          rw [Bool.eq_false_iff]; intro h
          obtain ⟨u, hu, e, _⟩ := isCt_iff.1 h
          have : LiesAt c 0 u := by rw [e]; exact lies_text u
          have := hl.uniq this ht hu
          rw [this, ← u.text_size, ← e] at he
          exact he rfl
        have HV := Lib.hid hv
        clear hv
        go_wp2_with fail
        go_ret
        exact ⟨.inr ⟨HV.out, rfl⟩, hb1⟩
    · have hv : isCt c = false := by
        rw [Bool.eq_false_iff]; intro h
        obtain ⟨u, hu, e, _⟩ := isCt_iff.1 h
        exact hno ⟨u, hu, by rw [e]; exact lies_text u⟩
      have HV := Lib.hid hv
      clear hv hno
      go_wp2_with fail
      go_ret
      exact ⟨.inr ⟨HV.out, rfl⟩, hb1⟩
  · have hv : isCt c = false := by
      rw [Bool.eq_false_iff]; intro h
      obtain ⟨u, hu, e, h2⟩ := isCt_iff.1 h
      exact hs h2
    have HV := Lib.hid hv
    clear hv
    go_enter Tryz.func20, Tryz.ntmps20
    go_wp2_with fail
    go_ret
    exact ⟨.inr ⟨HV.out, rfl⟩, Below.refl _ _⟩

theorem impl_assume1 (q : Int) (b : Nat) (w : World) (hc : w.cell? ⟨b, 0, none⟩ = some (.int .i64 q)) (k : Nat) (hk : k < 16) :
    Calls Tryz.prog 112 #[.int .i64 k, .pointer (some ⟨b, 0, none⟩)] w fun e w' => e = .returned (.int .i64 (assuT q k)) ∧ Below w.heap.size w w' := by
  have HE := Lib.hid (assuT_at (p := q) hk)
  go_enter Tryz.func112, Tryz.ntmps112
  go_wp2_with fail
  go_ret
  rw [HE.out]
  exact ⟨rfl, Below.refl _ _⟩
theorem impl_assume (q : Int) (w : World) :
    Calls Tryz.prog 84 #[.int .i64 q] w fun e w' => e = .returned (.agg (cs 16 (assuT q))) ∧ Below w.heap.size w w' := by
  go_enter Tryz.func84, Tryz.ntmps84
  go_wp2_with fail
  refine (impl_makeTrans _ _ _ (assuT q) _ (enters_of Tryz.func112 (by kernel_rfl) rfl) ?_).mono ?_
  · intro W k hk hb
    exact impl_assume1 q _ W ((hb.cell (p := ⟨w.heap.size, 0, none⟩) (by simp; omega)).trans ((World.cell?_alloc_past _ _ _ (by simp)).trans (World.cell?_alloc_at _ _ _ _ rfl))) k hk
  rintro e w1 ⟨rfl, hb1⟩
  have HR0 : Row w1 (w.heap.size + 1) 95 16 (fun _ => 0) := (Row.zero16 _ _ _ (by simp)).grown hb1
  go_wp2_with (refine wp_store_Row rfl 95 _ _ rfl (w.heap.size + 1) rfl (f := assuT q) rfl HR0 trans_i ?_)
  refine ret_Row rfl (w.heap.size + 1) rfl (HR0.setRow _) trans_u rfl trans_i rfl ⟨rfl, below_setRow ?_ (by omega) _⟩
  exact below_step (below_new (below_new (Below.refl _ _) _) _) hb1

theorem Node.range {w : World} {b : Nat} {o : UInt8} {p : Int} {r : Nat → Int} {pv : Value} {tx : ByteArray} (h : Node w b o p r pv tx) : w.rangeAt b 2 [.int .i64 (r 0), .int .i64 (r 1), .int .i64 (r 2), .int .i64 (r 3)] :=
  World.rangeAt_of_block h.eq 2 4
/-- the relation of a statement is read -/
theorem wp_load_NodeR {P : Program} {ops : Array Oper} {rest : List Oper} {o : Oper} {a : Act} {w : World} {Q : Exit → Act → World → Prop} (hgd : o.guard = none) (ty : TypeId) (x : Operand) (ho : o.op = .load ty x) (b : Nat) (hx : a.eval x = .pointer (some ⟨b, 2, none⟩))
    {c : UInt8} {p : Int} {r : Nat → Int} {pv : Value} {tx : ByteArray} {d : TypeDesc} (hN : Node w b c p r pv tx) (hu : P.underlying ty = some d) (hd : d.isRow = true) (hi : (P.info? ty).map (·.size) = some 4)
    (h : wpList P ops Q rest (a.put o.dst (.agg (cs 4 r))) w) : wpList P ops Q (o :: rest) a w :=
  wpList_load_mid hgd ty x ho b 2 hx _ d hN.range hu hd hi h

/-- the contract of a contract's transformer -/
def TrImp (t : Ct) : Prop := ∀ (b : Nat) (S : Nat → Prop) (w : World), Tree w S t b → Calls Tryz.prog 66 #[.pointer (some ⟨b, 0, none⟩)] w fun e w' => e = .returned (.agg (cs 16 t.sem)) ∧ Below w.heap.size w w'
theorem turn_rep (o : UInt8) (ho : o ≠ 119) (x b q : Int) : turnV o x b q = turnV o 0 b q := by unfold turnV; rw [if_neg ho, if_neg ho]
theorem lastD1 {d : List Int} (h : d.length = 1) : lastD d = dsF d 0 := by
  match d, h with
  | [x], _ => rfl
theorem relD4 {d : List Int} (h : d.length = 4) : ∀ k, k < 4 → relD d k = dsF d k := fun k _ => by unfold relD; rw [if_pos h]

theorem impl_tr115 (d : List Int) (ht : (Ct.n0 115 d).WF) (hn : d.length = 0) : TrImp (.n0 115 d) := by
  rintro b S w ⟨_, hN⟩
  have HS : Hid ((Ct.n0 115 d).sem = skipT) := rfl
  have e0 : cs 16 (assertT 15) = cs 16 skipT := cs_ext ass_all
  have hN2 : ∀ o1 o2, Node ((w.alloc o1).alloc o2) b 115 (lastD d) (relD d) (.slice none 0 0) (Ct.n0 115 d).text := fun o1 o2 => hN.grown (below_new (below_new (Below.refl _ _) _) _)
  have c0 : ∀ o1 o2, ((w.alloc o1).alloc o2).cell? ⟨b, 0, none⟩ = some (.int .u8 115) := fun o1 o2 => (hN2 o1 o2).op
  have c1 := fun o1 o2 => (hN2 o1 o2).cp
  go_enter Tryz.func66, Tryz.ntmps66
  go_wp2_with fail
  refine (impl_assert 15 _).mono ?_
  rintro e w1 ⟨rfl, hb1⟩
  rw [e0]
  have HR0 : Row w1 (w.heap.size + 1) 95 16 (fun _ => 0) := (Row.zero16 _ _ _ (by simp)).grown hb1
  go_wp2_with (refine wp_store_Row rfl 95 _ _ rfl (w.heap.size + 1) rfl (f := skipT) rfl HR0 trans_i ?_)
  refine ret_Row rfl (w.heap.size + 1) rfl (HR0.setRow _) trans_u rfl trans_i rfl ⟨by rw [HS.out], below_setRow ?_ (by omega) _⟩
  exact below_step (below_new (below_new (Below.refl _ _) _) _) hb1

theorem impl_tr97 (d : List Int) (ht : (Ct.n0 97 d).WF) (hn : d.length = 0) : TrImp (.n0 97 d) := by
  rintro b S w ⟨_, hN⟩
  have HS : Hid ((Ct.n0 97 d).sem = assT 0) := rfl
  have e0 : cs 16 (assertT 0) = cs 16 (assT 0) := cs_ext (assT_eq 0)
  have hN2 : ∀ o1 o2, Node ((w.alloc o1).alloc o2) b 97 (lastD d) (relD d) (.slice none 0 0) (Ct.n0 97 d).text := fun o1 o2 => hN.grown (below_new (below_new (Below.refl _ _) _) _)
  have c0 : ∀ o1 o2, ((w.alloc o1).alloc o2).cell? ⟨b, 0, none⟩ = some (.int .u8 97) := fun o1 o2 => (hN2 o1 o2).op
  have c1 := fun o1 o2 => (hN2 o1 o2).cp
  go_enter Tryz.func66, Tryz.ntmps66
  go_wp2_with fail
  refine (impl_assert 0 _).mono ?_
  rintro e w1 ⟨rfl, hb1⟩
  rw [e0]
  have HR0 : Row w1 (w.heap.size + 1) 95 16 (fun _ => 0) := (Row.zero16 _ _ _ (by simp)).grown hb1
  go_wp2_with (refine wp_store_Row rfl 95 _ _ rfl (w.heap.size + 1) rfl (f := assT 0) rfl HR0 trans_i ?_)
  refine ret_Row rfl (w.heap.size + 1) rfl (HR0.setRow _) trans_u rfl trans_i rfl ⟨by rw [HS.out], below_setRow ?_ (by omega) _⟩
  exact below_step (below_new (below_new (Below.refl _ _) _) _) hb1

theorem impl_tr109 (d : List Int) (ht : (Ct.n0 109 d).WF) (hn : d.length = 0) : TrImp (.n0 109 d) := by
  rintro b S w ⟨_, hN⟩
  have HS : Hid ((Ct.n0 109 d).sem = assuT 0) := rfl
  have hN2 : ∀ o1 o2, Node ((w.alloc o1).alloc o2) b 109 (lastD d) (relD d) (.slice none 0 0) (Ct.n0 109 d).text := fun o1 o2 => hN.grown (below_new (below_new (Below.refl _ _) _) _)
  have c0 : ∀ o1 o2, ((w.alloc o1).alloc o2).cell? ⟨b, 0, none⟩ = some (.int .u8 109) := fun o1 o2 => (hN2 o1 o2).op
  have c1 := fun o1 o2 => (hN2 o1 o2).cp
  go_enter Tryz.func66, Tryz.ntmps66
  go_wp2_with fail
  refine (impl_assume 0 _).mono ?_
  rintro e w1 ⟨rfl, hb1⟩
  have HR0 : Row w1 (w.heap.size + 1) 95 16 (fun _ => 0) := (Row.zero16 _ _ _ (by simp)).grown hb1
  go_wp2_with (refine wp_store_Row rfl 95 _ _ rfl (w.heap.size + 1) rfl (f := assuT 0) rfl HR0 trans_i ?_)
  refine ret_Row rfl (w.heap.size + 1) rfl (HR0.setRow _) trans_u rfl trans_i rfl ⟨by rw [HS.out], below_setRow ?_ (by omega) _⟩
  exact below_step (below_new (below_new (Below.refl _ _) _) _) hb1

theorem impl_tr33 (d : List Int) (ht : (Ct.n0 33 d).WF) (hn : d.length = 1) : TrImp (.n0 33 d) := by
  rintro b S w ⟨_, hN⟩
  have HS : Hid ((Ct.n0 33 d).sem = assT (dsF d 0)) := rfl
  have e0 : cs 16 (assertT (lastD d)) = cs 16 (assT (dsF d 0)) := by rw [lastD1 hn]; exact cs_ext (assT_eq _)
  have hN2 : ∀ o1 o2, Node ((w.alloc o1).alloc o2) b 33 (lastD d) (relD d) (.slice none 0 0) (Ct.n0 33 d).text := fun o1 o2 => hN.grown (below_new (below_new (Below.refl _ _) _) _)
  have c0 : ∀ o1 o2, ((w.alloc o1).alloc o2).cell? ⟨b, 0, none⟩ = some (.int .u8 33) := fun o1 o2 => (hN2 o1 o2).op
  have c1 := fun o1 o2 => (hN2 o1 o2).cp
  go_enter Tryz.func66, Tryz.ntmps66
  go_wp2_with fail
  refine (impl_assert (lastD d) _).mono ?_
  rintro e w1 ⟨rfl, hb1⟩
  rw [e0]
  have HR0 : Row w1 (w.heap.size + 1) 95 16 (fun _ => 0) := (Row.zero16 _ _ _ (by simp)).grown hb1
  go_wp2_with (refine wp_store_Row rfl 95 _ _ rfl (w.heap.size + 1) rfl (f := assT (dsF d 0)) rfl HR0 trans_i ?_)
  refine ret_Row rfl (w.heap.size + 1) rfl (HR0.setRow _) trans_u rfl trans_i rfl ⟨by rw [HS.out], below_setRow ?_ (by omega) _⟩
  exact below_step (below_new (below_new (Below.refl _ _) _) _) hb1

theorem impl_tr63 (d : List Int) (ht : (Ct.n0 63 d).WF) (hn : d.length = 1) : TrImp (.n0 63 d) := by
  rintro b S w ⟨_, hN⟩
  have HS : Hid ((Ct.n0 63 d).sem = assuT (dsF d 0)) := rfl
  have e0 : cs 16 (assuT (lastD d)) = cs 16 (assuT (dsF d 0)) := by rw [lastD1 hn]
  have hN2 : ∀ o1 o2, Node ((w.alloc o1).alloc o2) b 63 (lastD d) (relD d) (.slice none 0 0) (Ct.n0 63 d).text := fun o1 o2 => hN.grown (below_new (below_new (Below.refl _ _) _) _)
  have c0 : ∀ o1 o2, ((w.alloc o1).alloc o2).cell? ⟨b, 0, none⟩ = some (.int .u8 63) := fun o1 o2 => (hN2 o1 o2).op
  have c1 := fun o1 o2 => (hN2 o1 o2).cp
  go_enter Tryz.func66, Tryz.ntmps66
  go_wp2_with fail
  refine (impl_assume (lastD d) _).mono ?_
  rintro e w1 ⟨rfl, hb1⟩
  rw [e0]
  have HR0 : Row w1 (w.heap.size + 1) 95 16 (fun _ => 0) := (Row.zero16 _ _ _ (by simp)).grown hb1
  go_wp2_with (refine wp_store_Row rfl 95 _ _ rfl (w.heap.size + 1) rfl (f := assuT (dsF d 0)) rfl HR0 trans_i ?_)
  refine ret_Row rfl (w.heap.size + 1) rfl (HR0.setRow _) trans_u rfl trans_i rfl ⟨by rw [HS.out], below_setRow ?_ (by omega) _⟩
  exact below_step (below_new (below_new (Below.refl _ _) _) _) hb1

theorem impl_tr65 (d : List Int) (ht : (Ct.n0 65 d).WF) (hn : d.length = 4) : TrImp (.n0 65 d) := by
  rintro b S w ⟨_, hN⟩
  have HS : Hid ((Ct.n0 65 d).sem = angelT (dsF d)) := rfl
  have e0 : cs 16 (angelT (relD d)) = cs 16 (angelT (dsF d)) := cs_ext (eq16_angel (relD4 hn))
  have hN2 : ∀ o1 o2, Node ((w.alloc o1).alloc o2) b 65 (lastD d) (relD d) (.slice none 0 0) (Ct.n0 65 d).text := fun o1 o2 => hN.grown (below_new (below_new (Below.refl _ _) _) _)
  have c0 : ∀ o1 o2, ((w.alloc o1).alloc o2).cell? ⟨b, 0, none⟩ = some (.int .u8 65) := fun o1 o2 => (hN2 o1 o2).op
  go_enter Tryz.func66, Tryz.ntmps66
  go_wp2_with (refine wp_load_NodeR rfl 82 _ rfl b rfl (hN2 _ _) rel_u rfl rel_i ?_)
  refine (impl_angel (relD d) _).mono ?_
  rintro e w1 ⟨rfl, hb1⟩
  rw [e0]
  have HR0 : Row w1 (w.heap.size + 1) 95 16 (fun _ => 0) := (Row.zero16 _ _ _ (by simp)).grown hb1
  go_wp2_with (refine wp_store_Row rfl 95 _ _ rfl (w.heap.size + 1) rfl (f := angelT (dsF d)) rfl HR0 trans_i ?_)
  refine ret_Row rfl (w.heap.size + 1) rfl (HR0.setRow _) trans_u rfl trans_i rfl ⟨by rw [HS.out], below_setRow ?_ (by omega) _⟩
  exact below_step (below_new (below_new (Below.refl _ _) _) _) hb1

theorem impl_tr68 (d : List Int) (ht : (Ct.n0 68 d).WF) (hn : d.length = 4) : TrImp (.n0 68 d) := by
  rintro b S w ⟨_, hN⟩
  have HS : Hid ((Ct.n0 68 d).sem = demonT (dsF d)) := rfl
  have e0 : cs 16 (demonT (relD d)) = cs 16 (demonT (dsF d)) := cs_ext (eq16_demon (relD4 hn))
  have hN2 : ∀ o1 o2, Node ((w.alloc o1).alloc o2) b 68 (lastD d) (relD d) (.slice none 0 0) (Ct.n0 68 d).text := fun o1 o2 => hN.grown (below_new (below_new (Below.refl _ _) _) _)
  have c0 : ∀ o1 o2, ((w.alloc o1).alloc o2).cell? ⟨b, 0, none⟩ = some (.int .u8 68) := fun o1 o2 => (hN2 o1 o2).op
  go_enter Tryz.func66, Tryz.ntmps66
  go_wp2_with (refine wp_load_NodeR rfl 82 _ rfl b rfl (hN2 _ _) rel_u rfl rel_i ?_)
  refine (impl_demon (relD d) _).mono ?_
  rintro e w1 ⟨rfl, hb1⟩
  rw [e0]
  have HR0 : Row w1 (w.heap.size + 1) 95 16 (fun _ => 0) := (Row.zero16 _ _ _ (by simp)).grown hb1
  go_wp2_with (refine wp_store_Row rfl 95 _ _ rfl (w.heap.size + 1) rfl (f := demonT (dsF d)) rfl HR0 trans_i ?_)
  refine ret_Row rfl (w.heap.size + 1) rfl (HR0.setRow _) trans_u rfl trans_i rfl ⟨by rw [HS.out], below_setRow ?_ (by omega) _⟩
  exact below_step (below_new (below_new (Below.refl _ _) _) _) hb1

theorem impl_whl2 (t : Nat → Int) (q k : Nat) (hk : k < 16) (b c r z : Nat) (o : UInt8) (x : Int) (rr : Nat → Int) (pv : Value) (tx : ByteArray) (w : World) (hN : Node w b o x rr pv tx) (HT : Row w r 95 16 t)
    (hc : w.cell? ⟨c, 0, none⟩ = some (.pointer (some ⟨b, 0, none⟩))) (hz : w.cell? ⟨z, 0, none⟩ = some (.int .i64 q)) :
    Calls Tryz.prog 90 #[.int .i64 k, .pointer (some ⟨c, 0, none⟩), .pointer (some ⟨r, 0, none⟩), .pointer (some ⟨z, 0, none⟩)] w fun e w' => e = .returned (.int .i64 (turnV 119 x (t k) q)) ∧ Below w.heap.size w w' := by
  have h1 := HT.cell k hk
  have h2 := hN.cp
  have k1 : (0 : Int) ≤ (k : Int) := by omega
  have k2 : (k : Int) < 16 := by omega
  go_enter Tryz.func90, Tryz.ntmps90
  go_wp2_with fail
  go_quiet (fail)
  go_wp2_with fail
  go_ret
  exact ⟨rfl, below_drewN (Below.refl _ _) _⟩
theorem impl_whl1 (t : Nat → Int) (ht : Mon t) (q : Nat) (hq : q < 16) (b c r : Nat) (o : UInt8) (x : Int) (hx : C x) (rr : Nat → Int) (pv : Value) (tx : ByteArray) (w : World) (hN : Node w b o x rr pv tx) (HT : Row w r 95 16 t)
    (hc : w.cell? ⟨c, 0, none⟩ = some (.pointer (some ⟨b, 0, none⟩))) :
    Calls Tryz.prog 88 #[.int .i64 q, .pointer (some ⟨c, 0, none⟩), .pointer (some ⟨r, 0, none⟩)] w fun e w' => e = .returned (.int .i64 (lfp fun y => turnV 119 x (t y.toNat) q)) ∧ Below w.heap.size w w' := by
  go_enter Tryz.func88, Tryz.ntmps88
  go_wp2_with fail
  refine (impl_leastPoint _ _ _ (fun k => turnV 119 x (t k) q) (turn_mon (o := 119) hx ht (c_nat hq)) _ (enters_of Tryz.func90 (by kernel_rfl) rfl) ?_).mono ?_
  · intro W k hk hW
    have hB : Below w.heap.size w W := below_step (below_new (Below.refl _ _) _) hW
    exact impl_whl2 t q k hk b c r _ o x rr pv tx W (hN.grown hB) (HT.grown hB) (cell_grown hc hB) (cell_grown (World.cell?_alloc_at _ _ _ _ rfl) hW)
  rintro e w1 ⟨rfl, hb1⟩
  go_wp2_with fail
  go_ret
  exact ⟨rfl, below_step (below_new (Below.refl _ _) _) hb1⟩

theorem impl_rep422 (t : Nat → Int) (q k : Nat) (hk : k < 16) (r z : Nat) (w : World) (HT : Row w r 95 16 t) (hz : w.cell? ⟨z, 0, none⟩ = some (.int .i64 q)) :
    Calls Tryz.prog 92 #[.int .i64 k, .pointer (some ⟨r, 0, none⟩), .pointer (some ⟨z, 0, none⟩)] w fun e w' => e = .returned (.int .i64 (turnV 42 0 (t k) q)) ∧ Below w.heap.size w w' := by
  have h1 := HT.cell k hk
  have k1 : (0 : Int) ≤ (k : Int) := by omega
  have k2 : (k : Int) < 16 := by omega
  go_enter Tryz.func92, Tryz.ntmps92
  go_wp2_with fail
  go_quiet (fail)
  go_wp2_with fail
  go_ret
  exact ⟨rfl, below_drewN (Below.refl _ _) _⟩
theorem impl_rep421 (t : Nat → Int) (ht : Mon t) (q : Nat) (hq : q < 16) (r : Nat) (w : World) (HT : Row w r 95 16 t) :
    Calls Tryz.prog 91 #[.int .i64 q, .pointer (some ⟨r, 0, none⟩)] w fun e w' => e = .returned (.int .i64 (lfp fun y => turnV 42 0 (t y.toNat) q)) ∧ Below w.heap.size w w' := by
  go_enter Tryz.func91, Tryz.ntmps91
  go_wp2_with fail
  refine (impl_leastPoint _ _ _ (fun k => turnV 42 0 (t k) q) (turn_mon (o := 42) C.zero ht (c_nat hq)) _ (enters_of Tryz.func92 (by kernel_rfl) rfl) ?_).mono ?_
  · intro W k hk hW
    have hB : Below w.heap.size w W := below_step (below_new (Below.refl _ _) _) hW
    exact impl_rep422 t q k hk r _ W (HT.grown hB) (cell_grown (World.cell?_alloc_at _ _ _ _ rfl) hW)
  rintro e w1 ⟨rfl, hb1⟩
  go_wp2_with fail
  go_ret
  exact ⟨rfl, below_step (below_new (Below.refl _ _) _) hb1⟩

theorem impl_rep432 (t : Nat → Int) (q k : Nat) (hk : k < 16) (r z : Nat) (w : World) (HT : Row w r 95 16 t) (hz : w.cell? ⟨z, 0, none⟩ = some (.int .i64 q)) :
    Calls Tryz.prog 94 #[.int .i64 k, .pointer (some ⟨r, 0, none⟩), .pointer (some ⟨z, 0, none⟩)] w fun e w' => e = .returned (.int .i64 (turnV 43 0 (t k) q)) ∧ Below w.heap.size w w' := by
  have h1 := HT.cell k hk
  have k1 : (0 : Int) ≤ (k : Int) := by omega
  have k2 : (k : Int) < 16 := by omega
  go_enter Tryz.func94, Tryz.ntmps94
  go_wp2_with fail
  go_quiet (fail)
  go_wp2_with fail
  go_ret
  exact ⟨rfl, below_drewN (Below.refl _ _) _⟩
theorem impl_rep431 (t : Nat → Int) (ht : Mon t) (q : Nat) (hq : q < 16) (r : Nat) (w : World) (HT : Row w r 95 16 t) :
    Calls Tryz.prog 93 #[.int .i64 q, .pointer (some ⟨r, 0, none⟩)] w fun e w' => e = .returned (.int .i64 (lfp fun y => turnV 43 0 (t y.toNat) q)) ∧ Below w.heap.size w w' := by
  go_enter Tryz.func93, Tryz.ntmps93
  go_wp2_with fail
  refine (impl_leastPoint _ _ _ (fun k => turnV 43 0 (t k) q) (turn_mon (o := 43) C.zero ht (c_nat hq)) _ (enters_of Tryz.func94 (by kernel_rfl) rfl) ?_).mono ?_
  · intro W k hk hW
    have hB : Below w.heap.size w W := below_step (below_new (Below.refl _ _) _) hW
    exact impl_rep432 t q k hk r _ W (HT.grown hB) (cell_grown (World.cell?_alloc_at _ _ _ _ rfl) hW)
  rintro e w1 ⟨rfl, hb1⟩
  go_wp2_with fail
  go_ret
  exact ⟨rfl, below_step (below_new (Below.refl _ _) _) hb1⟩

theorem impl_ite1 (t u : Nat → Int) (q : Nat) (hq : q < 16) (b c r z : Nat) (o : UInt8) (x : Int) (rr : Nat → Int) (pv : Value) (tx : ByteArray) (w : World) (hN : Node w b o x rr pv tx) (HT : Row w r 95 16 t) (HU : Row w z 95 16 u)
    (hc : w.cell? ⟨c, 0, none⟩ = some (.pointer (some ⟨b, 0, none⟩))) :
    Calls Tryz.prog 98 #[.int .i64 q, .pointer (some ⟨c, 0, none⟩), .pointer (some ⟨r, 0, none⟩), .pointer (some ⟨z, 0, none⟩)] w fun e w' => e = .returned (.int .i64 (iteT x t u q)) ∧ Below w.heap.size w w' := by
  have h1 := HT.cell q hq
  have h2 := hN.cp
  have h3 := HU.cell q hq
  have k1 : (0 : Int) ≤ (q : Int) := by omega
  have k2 : (q : Int) < 16 := by omega
  go_enter Tryz.func98, Tryz.ntmps98
  go_wp2_with fail
  go_quiet (fail)
  go_wp2_with fail
  go_ret
  exact ⟨rfl, below_drewN (Below.refl _ _) _⟩

theorem impl_tr119 (d : List Int) (x : Ct) (ht : (Ct.n1 119 d x).WF) (hn : d.length = 1) (ih : TrImp x) : TrImp (Ct.n1 119 d x) := by
  rintro b S w ⟨g, cap, c, _, hN, hg0, hx⟩
  have MX := Ct.mon x ht.2
  have HC : C (dsF d 0) := dsF_c ht.1.2 0
  have HS : ∀ q, q < 16 → (Ct.n1 119 d x).sem q = lfp fun y => turnV 119 (dsF d 0) (x.sem y.toNat) q := fun q hq => by exact sem_loop 119 d x q hq
  have hN2 : ∀ o1 o2, Node ((w.alloc o1).alloc o2) b 119 (lastD d) (relD d) (.slice (some ⟨g, 0, none⟩) 1 cap) (Ct.n1 119 d x).text := fun o1 o2 => hN.grown (below_new (below_new (Below.refl _ _) _) _)
  have c0 : ∀ o1 o2, ((w.alloc o1).alloc o2).cell? ⟨b, 0, none⟩ = some (.int .u8 119) := fun o1 o2 => (hN2 o1 o2).op
  have c6 := fun o1 o2 => (hN2 o1 o2).parts
  have cg : ∀ o1 o2, ((w.alloc o1).alloc o2).cell? ⟨g, 0, none⟩ = some (.pointer (some ⟨c, 0, none⟩)) := fun o1 o2 => cell_grown hg0 (below_new (below_new (Below.refl _ _) _) _)
  go_enter Tryz.func66, Tryz.ntmps66
  go_wp2_with fail
  refine (ih c S _ (Tree.grown (below_new (below_new (Below.refl _ _) _) _) x c hx)).mono ?_
  rintro e w1 ⟨rfl, hb1⟩
  have hB1 : Below w.heap.size w w1 := below_step (below_new (below_new (Below.refl _ _) _) _) hb1
  have hz1 : Row w1 (w.heap.size + 1) 95 16 (fun _ => 0) := (Row.zero16 _ _ _ (by simp)).grown hb1
  have hp1 : w1.cell? ⟨w.heap.size, 0, none⟩ = some (.pointer (some ⟨b, 0, none⟩)) := cell_grown ((World.cell?_alloc_past _ _ _ (by simp)).trans (World.cell?_alloc_at _ _ _ _ rfl)) hb1
  have hN5 : Node (w1.alloc (.cells (cs 16 x.sem) 95)) b 119 (dsF d 0) (relD d) (.slice (some ⟨g, 0, none⟩) 1 cap) (Ct.n1 119 d x).text := by rw [← lastD1 hn]; exact hN.grown (below_step hB1 (below_new (Below.refl _ _) _))
  have c50 : (w1.alloc (.cells (cs 16 x.sem) 95)).cell? ⟨b, 0, none⟩ = some (.int .u8 119) := hN5.op
  have cp5 : (w1.alloc (.cells (cs 16 x.sem) 95)).cell? ⟨w.heap.size, 0, none⟩ = some (.pointer (some ⟨b, 0, none⟩)) := cell_grown hp1 (below_new (Below.refl _ _) _)
  go_wp2_with (refine wp_store_New rfl 95 _ _ rfl rfl (f := x.sem) rfl rfl trans_i ?_)
  refine (impl_makeTrans _ _ _ (fun q => (Ct.n1 119 d x).sem q) _ (enters_of Tryz.func88 (by kernel_rfl) rfl) ?_).mono ?_
  · intro W q hq hW
    show Calls _ _ _ _ fun e W' => e = .returned (.int .i64 ((Ct.n1 119 d x).sem q)) ∧ _
    rw [HS q hq]
    exact impl_whl1 x.sem MX q hq b _ _ 119 (dsF d 0) HC (relD d) _ _ W (hN5.grown hW) ((Row.new w1 _ 16 _).grown hW) (cell_grown (cell_grown hp1 (below_new (Below.refl _ _) _)) hW)
  rintro e w2 ⟨rfl, hb2⟩
  have HR0 : Row w2 (w.heap.size + 1) 95 16 (fun _ => 0) := (hz1.old _).grown hb2
  go_wp2_with (refine wp_store_Row rfl 95 _ _ rfl (w.heap.size + 1) rfl (f := (Ct.n1 119 d x).sem) rfl HR0 trans_i ?_)
  refine ret_Row rfl (w.heap.size + 1) rfl (HR0.setRow _) trans_u rfl trans_i rfl ⟨rfl, below_setRow ?_ (by omega) _⟩
  exact below_step (below_new hB1 _) hb2

theorem impl_tr42 (d : List Int) (x : Ct) (ht : (Ct.n1 42 d x).WF) (hn : d.length = 0) (ih : TrImp x) : TrImp (Ct.n1 42 d x) := by
  rintro b S w ⟨g, cap, c, _, hN, hg0, hx⟩
  have MX := Ct.mon x ht.2
  have HC : C (dsF d 0) := dsF_c ht.1.2 0
  have HS : ∀ q, q < 16 → (Ct.n1 42 d x).sem q = lfp fun y => turnV 42 0 (x.sem y.toNat) q := fun q hq => by rw [sem_loop 42 d x q hq]; exact congrArg lfp (funext fun y => turn_rep 42 (by decide) _ _ _)
  have hN2 : ∀ o1 o2, Node ((w.alloc o1).alloc o2) b 42 (lastD d) (relD d) (.slice (some ⟨g, 0, none⟩) 1 cap) (Ct.n1 42 d x).text := fun o1 o2 => hN.grown (below_new (below_new (Below.refl _ _) _) _)
  have c0 : ∀ o1 o2, ((w.alloc o1).alloc o2).cell? ⟨b, 0, none⟩ = some (.int .u8 42) := fun o1 o2 => (hN2 o1 o2).op
  have c6 := fun o1 o2 => (hN2 o1 o2).parts
  have cg : ∀ o1 o2, ((w.alloc o1).alloc o2).cell? ⟨g, 0, none⟩ = some (.pointer (some ⟨c, 0, none⟩)) := fun o1 o2 => cell_grown hg0 (below_new (below_new (Below.refl _ _) _) _)
  go_enter Tryz.func66, Tryz.ntmps66
  go_wp2_with fail
  refine (ih c S _ (Tree.grown (below_new (below_new (Below.refl _ _) _) _) x c hx)).mono ?_
  rintro e w1 ⟨rfl, hb1⟩
  have hB1 : Below w.heap.size w w1 := below_step (below_new (below_new (Below.refl _ _) _) _) hb1
  have hz1 : Row w1 (w.heap.size + 1) 95 16 (fun _ => 0) := (Row.zero16 _ _ _ (by simp)).grown hb1
  have hp1 : w1.cell? ⟨w.heap.size, 0, none⟩ = some (.pointer (some ⟨b, 0, none⟩)) := cell_grown ((World.cell?_alloc_past _ _ _ (by simp)).trans (World.cell?_alloc_at _ _ _ _ rfl)) hb1
  have hN5 : Node (w1.alloc (.cells (cs 16 x.sem) 95)) b 42 (lastD d) (relD d) (.slice (some ⟨g, 0, none⟩) 1 cap) (Ct.n1 42 d x).text :=  hN.grown (below_step hB1 (below_new (Below.refl _ _) _))
  have c50 : (w1.alloc (.cells (cs 16 x.sem) 95)).cell? ⟨b, 0, none⟩ = some (.int .u8 42) := hN5.op
  have cp5 : (w1.alloc (.cells (cs 16 x.sem) 95)).cell? ⟨w.heap.size, 0, none⟩ = some (.pointer (some ⟨b, 0, none⟩)) := cell_grown hp1 (below_new (Below.refl _ _) _)
  go_wp2_with (refine wp_store_New rfl 95 _ _ rfl rfl (f := x.sem) rfl rfl trans_i ?_)
  refine (impl_makeTrans _ _ _ (fun q => (Ct.n1 42 d x).sem q) _ (enters_of Tryz.func91 (by kernel_rfl) rfl) ?_).mono ?_
  · intro W q hq hW
    show Calls _ _ _ _ fun e W' => e = .returned (.int .i64 ((Ct.n1 42 d x).sem q)) ∧ _
    rw [HS q hq]
    exact impl_rep421 x.sem MX q hq _ W ((Row.new w1 _ 16 _).grown hW)
  rintro e w2 ⟨rfl, hb2⟩
  have HR0 : Row w2 (w.heap.size + 1) 95 16 (fun _ => 0) := (hz1.old _).grown hb2
  go_wp2_with (refine wp_store_Row rfl 95 _ _ rfl (w.heap.size + 1) rfl (f := (Ct.n1 42 d x).sem) rfl HR0 trans_i ?_)
  refine ret_Row rfl (w.heap.size + 1) rfl (HR0.setRow _) trans_u rfl trans_i rfl ⟨rfl, below_setRow ?_ (by omega) _⟩
  exact below_step (below_new hB1 _) hb2

theorem impl_tr43 (d : List Int) (x : Ct) (ht : (Ct.n1 43 d x).WF) (hn : d.length = 0) (ih : TrImp x) : TrImp (Ct.n1 43 d x) := by
  rintro b S w ⟨g, cap, c, _, hN, hg0, hx⟩
  have MX := Ct.mon x ht.2
  have HC : C (dsF d 0) := dsF_c ht.1.2 0
  have HS : ∀ q, q < 16 → (Ct.n1 43 d x).sem q = lfp fun y => turnV 43 0 (x.sem y.toNat) q := fun q hq => by rw [sem_loop 43 d x q hq]; exact congrArg lfp (funext fun y => turn_rep 43 (by decide) _ _ _)
  have hN2 : ∀ o1 o2, Node ((w.alloc o1).alloc o2) b 43 (lastD d) (relD d) (.slice (some ⟨g, 0, none⟩) 1 cap) (Ct.n1 43 d x).text := fun o1 o2 => hN.grown (below_new (below_new (Below.refl _ _) _) _)
  have c0 : ∀ o1 o2, ((w.alloc o1).alloc o2).cell? ⟨b, 0, none⟩ = some (.int .u8 43) := fun o1 o2 => (hN2 o1 o2).op
  have c6 := fun o1 o2 => (hN2 o1 o2).parts
  have cg : ∀ o1 o2, ((w.alloc o1).alloc o2).cell? ⟨g, 0, none⟩ = some (.pointer (some ⟨c, 0, none⟩)) := fun o1 o2 => cell_grown hg0 (below_new (below_new (Below.refl _ _) _) _)
  go_enter Tryz.func66, Tryz.ntmps66
  go_wp2_with fail
  refine (ih c S _ (Tree.grown (below_new (below_new (Below.refl _ _) _) _) x c hx)).mono ?_
  rintro e w1 ⟨rfl, hb1⟩
  have hB1 : Below w.heap.size w w1 := below_step (below_new (below_new (Below.refl _ _) _) _) hb1
  have hz1 : Row w1 (w.heap.size + 1) 95 16 (fun _ => 0) := (Row.zero16 _ _ _ (by simp)).grown hb1
  have hp1 : w1.cell? ⟨w.heap.size, 0, none⟩ = some (.pointer (some ⟨b, 0, none⟩)) := cell_grown ((World.cell?_alloc_past _ _ _ (by simp)).trans (World.cell?_alloc_at _ _ _ _ rfl)) hb1
  have hN5 : Node (w1.alloc (.cells (cs 16 x.sem) 95)) b 43 (lastD d) (relD d) (.slice (some ⟨g, 0, none⟩) 1 cap) (Ct.n1 43 d x).text :=  hN.grown (below_step hB1 (below_new (Below.refl _ _) _))
  have c50 : (w1.alloc (.cells (cs 16 x.sem) 95)).cell? ⟨b, 0, none⟩ = some (.int .u8 43) := hN5.op
  have cp5 : (w1.alloc (.cells (cs 16 x.sem) 95)).cell? ⟨w.heap.size, 0, none⟩ = some (.pointer (some ⟨b, 0, none⟩)) := cell_grown hp1 (below_new (Below.refl _ _) _)
  go_wp2_with (refine wp_store_New rfl 95 _ _ rfl rfl (f := x.sem) rfl rfl trans_i ?_)
  refine (impl_makeTrans _ _ _ (fun q => (Ct.n1 43 d x).sem q) _ (enters_of Tryz.func93 (by kernel_rfl) rfl) ?_).mono ?_
  · intro W q hq hW
    show Calls _ _ _ _ fun e W' => e = .returned (.int .i64 ((Ct.n1 43 d x).sem q)) ∧ _
    rw [HS q hq]
    exact impl_rep431 x.sem MX q hq _ W ((Row.new w1 _ 16 _).grown hW)
  rintro e w2 ⟨rfl, hb2⟩
  have HR0 : Row w2 (w.heap.size + 1) 95 16 (fun _ => 0) := (hz1.old _).grown hb2
  go_wp2_with (refine wp_store_Row rfl 95 _ _ rfl (w.heap.size + 1) rfl (f := (Ct.n1 43 d x).sem) rfl HR0 trans_i ?_)
  refine ret_Row rfl (w.heap.size + 1) rfl (HR0.setRow _) trans_u rfl trans_i rfl ⟨rfl, below_setRow ?_ (by omega) _⟩
  exact below_step (below_new hB1 _) hb2

theorem impl_tr59 (d : List Int) (x y : Ct) (ht : (Ct.n2 59 d x y).WF) (hn : d.length = 0) (ih : TrImp x) (ihy : TrImp y) : TrImp (Ct.n2 59 d x y) := by
  rintro b S w ⟨g, cap, c, e', _, hN, hg0, hg1, hx, hy⟩
  have MX := Ct.mon x ht.2.1
  have MY := Ct.mon y ht.2.2
  have hN2 : ∀ o1 o2, Node ((w.alloc o1).alloc o2) b 59 (lastD d) (relD d) (.slice (some ⟨g, 0, none⟩) 2 cap) (Ct.n2 59 d x y).text := fun o1 o2 => hN.grown (below_new (below_new (Below.refl _ _) _) _)
  have c0 : ∀ o1 o2, ((w.alloc o1).alloc o2).cell? ⟨b, 0, none⟩ = some (.int .u8 59) := fun o1 o2 => (hN2 o1 o2).op
  have c6 := fun o1 o2 => (hN2 o1 o2).parts
  have cg : ∀ o1 o2, ((w.alloc o1).alloc o2).cell? ⟨g, 0, none⟩ = some (.pointer (some ⟨c, 0, none⟩)) := fun o1 o2 => cell_grown hg0 (below_new (below_new (Below.refl _ _) _) _)
  go_enter Tryz.func66, Tryz.ntmps66
  go_wp2_with fail
  refine (ih c S _ (Tree.grown (below_new (below_new (Below.refl _ _) _) _) x c hx)).mono ?_
  rintro e w1 ⟨rfl, hb1⟩
  have hB1 : Below w.heap.size w w1 := below_step (below_new (below_new (Below.refl _ _) _) _) hb1
  have hz1 : Row w1 (w.heap.size + 1) 95 16 (fun _ => 0) := (Row.zero16 _ _ _ (by simp)).grown hb1
  have hp1 : w1.cell? ⟨w.heap.size, 0, none⟩ = some (.pointer (some ⟨b, 0, none⟩)) := cell_grown ((World.cell?_alloc_past _ _ _ (by simp)).trans (World.cell?_alloc_at _ _ _ _ rfl)) hb1
  have hB3 : Below w.heap.size w (w1.alloc (.cells (cs 16 x.sem) 95)) := below_new hB1 _
  have hN3 : Node (w1.alloc (.cells (cs 16 x.sem) 95)) b 59 (lastD d) (relD d) (.slice (some ⟨g, 0, none⟩) 2 cap) (Ct.n2 59 d x y).text := hN.grown hB3
  have c30 : (w1.alloc (.cells (cs 16 x.sem) 95)).cell? ⟨b, 0, none⟩ = some (.int .u8 59) := hN3.op
  have c36 := hN3.parts
  have cp3 : (w1.alloc (.cells (cs 16 x.sem) 95)).cell? ⟨w.heap.size, 0, none⟩ = some (.pointer (some ⟨b, 0, none⟩)) := cell_grown hp1 (below_new (Below.refl _ _) _)
  have cg3 : (w1.alloc (.cells (cs 16 x.sem) 95)).cell? ⟨g, 1, none⟩ = some (.pointer (some ⟨e', 0, none⟩)) := cell_grown hg1 hB3
  go_wp2_with (refine wp_store_New rfl 95 _ _ rfl rfl (f := x.sem) rfl rfl trans_i ?_)
  refine (ihy e' S _ (Tree.grown hB3 y e' hy)).mono ?_
  rintro e w2 ⟨rfl, hb2⟩
  have hB2 := below_step hB3 hb2
  have hB5 := below_new hB2 (.cells (cs 16 y.sem) 95)
  have hN5 : Node (w2.alloc (.cells (cs 16 y.sem) 95)) b 59 (lastD d) (relD d) (.slice (some ⟨g, 0, none⟩) 2 cap) (Ct.n2 59 d x y).text := hN.grown hB5
  have c50 : (w2.alloc (.cells (cs 16 y.sem) 95)).cell? ⟨b, 0, none⟩ = some (.int .u8 59) := hN5.op
  have cp5 : (w2.alloc (.cells (cs 16 y.sem) 95)).cell? ⟨w.heap.size, 0, none⟩ = some (.pointer (some ⟨b, 0, none⟩)) := cell_grown (cell_grown cp3 hb2) (below_new (Below.refl _ _) _)
  have RX : Row (w2.alloc (.cells (cs 16 y.sem) 95)) w1.heap.size 95 16 x.sem := ((Row.new w1 _ 16 _).grown hb2).old _
  have RY : Row (w2.alloc (.cells (cs 16 y.sem) 95)) w2.heap.size 95 16 y.sem := Row.new w2 _ 16 _

  have HS : Hid ((Ct.n2 59 d x y).sem = thenT x.sem y.sem) := rfl
  go_wp2_with (first
    | (refine wp_store_New rfl 95 _ _ rfl rfl (f := y.sem) rfl rfl trans_i ?_)
    | (refine wp_load_Row rfl 95 _ rfl w1.heap.size rfl RX trans_u rfl trans_i ?_)
    | (refine wp_load_Row rfl 95 _ rfl w2.heap.size rfl RY trans_u rfl trans_i ?_))
  refine (impl_then x.sem y.sem MY.ok _).mono ?_
  rintro e w3 ⟨rfl, hb3⟩
  have HR0 : Row w3 (w.heap.size + 1) 95 16 (fun _ => 0) := ((((hz1.old _).grown hb2).old _).grown hb3)
  go_wp2_with (refine wp_store_Row rfl 95 _ _ rfl (w.heap.size + 1) rfl (f := thenT x.sem y.sem) rfl HR0 trans_i ?_)
  refine ret_Row rfl (w.heap.size + 1) rfl (HR0.setRow _) trans_u rfl trans_i rfl ⟨by rw [HS.out], below_setRow ?_ (by omega) _⟩
  exact below_step hB5 hb3

theorem impl_tr38 (d : List Int) (x y : Ct) (ht : (Ct.n2 38 d x y).WF) (hn : d.length = 0) (ih : TrImp x) (ihy : TrImp y) : TrImp (Ct.n2 38 d x y) := by
  rintro b S w ⟨g, cap, c, e', _, hN, hg0, hg1, hx, hy⟩
  have MX := Ct.mon x ht.2.1
  have MY := Ct.mon y ht.2.2
  have hN2 : ∀ o1 o2, Node ((w.alloc o1).alloc o2) b 38 (lastD d) (relD d) (.slice (some ⟨g, 0, none⟩) 2 cap) (Ct.n2 38 d x y).text := fun o1 o2 => hN.grown (below_new (below_new (Below.refl _ _) _) _)
  have c0 : ∀ o1 o2, ((w.alloc o1).alloc o2).cell? ⟨b, 0, none⟩ = some (.int .u8 38) := fun o1 o2 => (hN2 o1 o2).op
  have c6 := fun o1 o2 => (hN2 o1 o2).parts
  have cg : ∀ o1 o2, ((w.alloc o1).alloc o2).cell? ⟨g, 0, none⟩ = some (.pointer (some ⟨c, 0, none⟩)) := fun o1 o2 => cell_grown hg0 (below_new (below_new (Below.refl _ _) _) _)
  go_enter Tryz.func66, Tryz.ntmps66
  go_wp2_with fail
  refine (ih c S _ (Tree.grown (below_new (below_new (Below.refl _ _) _) _) x c hx)).mono ?_
  rintro e w1 ⟨rfl, hb1⟩
  have hB1 : Below w.heap.size w w1 := below_step (below_new (below_new (Below.refl _ _) _) _) hb1
  have hz1 : Row w1 (w.heap.size + 1) 95 16 (fun _ => 0) := (Row.zero16 _ _ _ (by simp)).grown hb1
  have hp1 : w1.cell? ⟨w.heap.size, 0, none⟩ = some (.pointer (some ⟨b, 0, none⟩)) := cell_grown ((World.cell?_alloc_past _ _ _ (by simp)).trans (World.cell?_alloc_at _ _ _ _ rfl)) hb1
  have hB3 : Below w.heap.size w (w1.alloc (.cells (cs 16 x.sem) 95)) := below_new hB1 _
  have hN3 : Node (w1.alloc (.cells (cs 16 x.sem) 95)) b 38 (lastD d) (relD d) (.slice (some ⟨g, 0, none⟩) 2 cap) (Ct.n2 38 d x y).text := hN.grown hB3
  have c30 : (w1.alloc (.cells (cs 16 x.sem) 95)).cell? ⟨b, 0, none⟩ = some (.int .u8 38) := hN3.op
  have c36 := hN3.parts
  have cp3 : (w1.alloc (.cells (cs 16 x.sem) 95)).cell? ⟨w.heap.size, 0, none⟩ = some (.pointer (some ⟨b, 0, none⟩)) := cell_grown hp1 (below_new (Below.refl _ _) _)
  have cg3 : (w1.alloc (.cells (cs 16 x.sem) 95)).cell? ⟨g, 1, none⟩ = some (.pointer (some ⟨e', 0, none⟩)) := cell_grown hg1 hB3
  go_wp2_with (refine wp_store_New rfl 95 _ _ rfl rfl (f := x.sem) rfl rfl trans_i ?_)
  refine (ihy e' S _ (Tree.grown hB3 y e' hy)).mono ?_
  rintro e w2 ⟨rfl, hb2⟩
  have hB2 := below_step hB3 hb2
  have hB5 := below_new hB2 (.cells (cs 16 y.sem) 95)
  have hN5 : Node (w2.alloc (.cells (cs 16 y.sem) 95)) b 38 (lastD d) (relD d) (.slice (some ⟨g, 0, none⟩) 2 cap) (Ct.n2 38 d x y).text := hN.grown hB5
  have c50 : (w2.alloc (.cells (cs 16 y.sem) 95)).cell? ⟨b, 0, none⟩ = some (.int .u8 38) := hN5.op
  have cp5 : (w2.alloc (.cells (cs 16 y.sem) 95)).cell? ⟨w.heap.size, 0, none⟩ = some (.pointer (some ⟨b, 0, none⟩)) := cell_grown (cell_grown cp3 hb2) (below_new (Below.refl _ _) _)
  have RX : Row (w2.alloc (.cells (cs 16 y.sem) 95)) w1.heap.size 95 16 x.sem := ((Row.new w1 _ 16 _).grown hb2).old _
  have RY : Row (w2.alloc (.cells (cs 16 y.sem) 95)) w2.heap.size 95 16 y.sem := Row.new w2 _ 16 _

  have HS : Hid ((Ct.n2 38 d x y).sem = meetT x.sem y.sem) := rfl
  go_wp2_with (first
    | (refine wp_store_New rfl 95 _ _ rfl rfl (f := y.sem) rfl rfl trans_i ?_)
    | (refine wp_load_Row rfl 95 _ rfl w1.heap.size rfl RX trans_u rfl trans_i ?_)
    | (refine wp_load_Row rfl 95 _ rfl w2.heap.size rfl RY trans_u rfl trans_i ?_))
  refine (impl_meet x.sem y.sem _).mono ?_
  rintro e w3 ⟨rfl, hb3⟩
  have HR0 : Row w3 (w.heap.size + 1) 95 16 (fun _ => 0) := ((((hz1.old _).grown hb2).old _).grown hb3)
  go_wp2_with (refine wp_store_Row rfl 95 _ _ rfl (w.heap.size + 1) rfl (f := meetT x.sem y.sem) rfl HR0 trans_i ?_)
  refine ret_Row rfl (w.heap.size + 1) rfl (HR0.setRow _) trans_u rfl trans_i rfl ⟨by rw [HS.out], below_setRow ?_ (by omega) _⟩
  exact below_step hB5 hb3

theorem impl_tr124 (d : List Int) (x y : Ct) (ht : (Ct.n2 124 d x y).WF) (hn : d.length = 0) (ih : TrImp x) (ihy : TrImp y) : TrImp (Ct.n2 124 d x y) := by
  rintro b S w ⟨g, cap, c, e', _, hN, hg0, hg1, hx, hy⟩
  have MX := Ct.mon x ht.2.1
  have MY := Ct.mon y ht.2.2
  have hN2 : ∀ o1 o2, Node ((w.alloc o1).alloc o2) b 124 (lastD d) (relD d) (.slice (some ⟨g, 0, none⟩) 2 cap) (Ct.n2 124 d x y).text := fun o1 o2 => hN.grown (below_new (below_new (Below.refl _ _) _) _)
  have c0 : ∀ o1 o2, ((w.alloc o1).alloc o2).cell? ⟨b, 0, none⟩ = some (.int .u8 124) := fun o1 o2 => (hN2 o1 o2).op
  have c6 := fun o1 o2 => (hN2 o1 o2).parts
  have cg : ∀ o1 o2, ((w.alloc o1).alloc o2).cell? ⟨g, 0, none⟩ = some (.pointer (some ⟨c, 0, none⟩)) := fun o1 o2 => cell_grown hg0 (below_new (below_new (Below.refl _ _) _) _)
  go_enter Tryz.func66, Tryz.ntmps66
  go_wp2_with fail
  refine (ih c S _ (Tree.grown (below_new (below_new (Below.refl _ _) _) _) x c hx)).mono ?_
  rintro e w1 ⟨rfl, hb1⟩
  have hB1 : Below w.heap.size w w1 := below_step (below_new (below_new (Below.refl _ _) _) _) hb1
  have hz1 : Row w1 (w.heap.size + 1) 95 16 (fun _ => 0) := (Row.zero16 _ _ _ (by simp)).grown hb1
  have hp1 : w1.cell? ⟨w.heap.size, 0, none⟩ = some (.pointer (some ⟨b, 0, none⟩)) := cell_grown ((World.cell?_alloc_past _ _ _ (by simp)).trans (World.cell?_alloc_at _ _ _ _ rfl)) hb1
  have hB3 : Below w.heap.size w (w1.alloc (.cells (cs 16 x.sem) 95)) := below_new hB1 _
  have hN3 : Node (w1.alloc (.cells (cs 16 x.sem) 95)) b 124 (lastD d) (relD d) (.slice (some ⟨g, 0, none⟩) 2 cap) (Ct.n2 124 d x y).text := hN.grown hB3
  have c30 : (w1.alloc (.cells (cs 16 x.sem) 95)).cell? ⟨b, 0, none⟩ = some (.int .u8 124) := hN3.op
  have c36 := hN3.parts
  have cp3 : (w1.alloc (.cells (cs 16 x.sem) 95)).cell? ⟨w.heap.size, 0, none⟩ = some (.pointer (some ⟨b, 0, none⟩)) := cell_grown hp1 (below_new (Below.refl _ _) _)
  have cg3 : (w1.alloc (.cells (cs 16 x.sem) 95)).cell? ⟨g, 1, none⟩ = some (.pointer (some ⟨e', 0, none⟩)) := cell_grown hg1 hB3
  go_wp2_with (refine wp_store_New rfl 95 _ _ rfl rfl (f := x.sem) rfl rfl trans_i ?_)
  refine (ihy e' S _ (Tree.grown hB3 y e' hy)).mono ?_
  rintro e w2 ⟨rfl, hb2⟩
  have hB2 := below_step hB3 hb2
  have hB5 := below_new hB2 (.cells (cs 16 y.sem) 95)
  have hN5 : Node (w2.alloc (.cells (cs 16 y.sem) 95)) b 124 (lastD d) (relD d) (.slice (some ⟨g, 0, none⟩) 2 cap) (Ct.n2 124 d x y).text := hN.grown hB5
  have c50 : (w2.alloc (.cells (cs 16 y.sem) 95)).cell? ⟨b, 0, none⟩ = some (.int .u8 124) := hN5.op
  have cp5 : (w2.alloc (.cells (cs 16 y.sem) 95)).cell? ⟨w.heap.size, 0, none⟩ = some (.pointer (some ⟨b, 0, none⟩)) := cell_grown (cell_grown cp3 hb2) (below_new (Below.refl _ _) _)
  have RX : Row (w2.alloc (.cells (cs 16 y.sem) 95)) w1.heap.size 95 16 x.sem := ((Row.new w1 _ 16 _).grown hb2).old _
  have RY : Row (w2.alloc (.cells (cs 16 y.sem) 95)) w2.heap.size 95 16 y.sem := Row.new w2 _ 16 _

  have HS : Hid ((Ct.n2 124 d x y).sem = joinT x.sem y.sem) := rfl
  go_wp2_with (first
    | (refine wp_store_New rfl 95 _ _ rfl rfl (f := y.sem) rfl rfl trans_i ?_)
    | (refine wp_load_Row rfl 95 _ rfl w1.heap.size rfl RX trans_u rfl trans_i ?_)
    | (refine wp_load_Row rfl 95 _ rfl w2.heap.size rfl RY trans_u rfl trans_i ?_))
  refine (impl_join x.sem y.sem _).mono ?_
  rintro e w3 ⟨rfl, hb3⟩
  have HR0 : Row w3 (w.heap.size + 1) 95 16 (fun _ => 0) := ((((hz1.old _).grown hb2).old _).grown hb3)
  go_wp2_with (refine wp_store_Row rfl 95 _ _ rfl (w.heap.size + 1) rfl (f := joinT x.sem y.sem) rfl HR0 trans_i ?_)
  refine ret_Row rfl (w.heap.size + 1) rfl (HR0.setRow _) trans_u rfl trans_i rfl ⟨by rw [HS.out], below_setRow ?_ (by omega) _⟩
  exact below_step hB5 hb3

theorem impl_tr105 (d : List Int) (x y : Ct) (ht : (Ct.n2 105 d x y).WF) (hn : d.length = 1) (ih : TrImp x) (ihy : TrImp y) : TrImp (Ct.n2 105 d x y) := by
  rintro b S w ⟨g, cap, c, e', _, hN, hg0, hg1, hx, hy⟩
  have MX := Ct.mon x ht.2.1
  have MY := Ct.mon y ht.2.2
  have hN2 : ∀ o1 o2, Node ((w.alloc o1).alloc o2) b 105 (lastD d) (relD d) (.slice (some ⟨g, 0, none⟩) 2 cap) (Ct.n2 105 d x y).text := fun o1 o2 => hN.grown (below_new (below_new (Below.refl _ _) _) _)
  have c0 : ∀ o1 o2, ((w.alloc o1).alloc o2).cell? ⟨b, 0, none⟩ = some (.int .u8 105) := fun o1 o2 => (hN2 o1 o2).op
  have c6 := fun o1 o2 => (hN2 o1 o2).parts
  have cg : ∀ o1 o2, ((w.alloc o1).alloc o2).cell? ⟨g, 0, none⟩ = some (.pointer (some ⟨c, 0, none⟩)) := fun o1 o2 => cell_grown hg0 (below_new (below_new (Below.refl _ _) _) _)
  go_enter Tryz.func66, Tryz.ntmps66
  go_wp2_with fail
  refine (ih c S _ (Tree.grown (below_new (below_new (Below.refl _ _) _) _) x c hx)).mono ?_
  rintro e w1 ⟨rfl, hb1⟩
  have hB1 : Below w.heap.size w w1 := below_step (below_new (below_new (Below.refl _ _) _) _) hb1
  have hz1 : Row w1 (w.heap.size + 1) 95 16 (fun _ => 0) := (Row.zero16 _ _ _ (by simp)).grown hb1
  have hp1 : w1.cell? ⟨w.heap.size, 0, none⟩ = some (.pointer (some ⟨b, 0, none⟩)) := cell_grown ((World.cell?_alloc_past _ _ _ (by simp)).trans (World.cell?_alloc_at _ _ _ _ rfl)) hb1
  have hB3 : Below w.heap.size w (w1.alloc (.cells (cs 16 x.sem) 95)) := below_new hB1 _
  have hN3 : Node (w1.alloc (.cells (cs 16 x.sem) 95)) b 105 (lastD d) (relD d) (.slice (some ⟨g, 0, none⟩) 2 cap) (Ct.n2 105 d x y).text := hN.grown hB3
  have c30 : (w1.alloc (.cells (cs 16 x.sem) 95)).cell? ⟨b, 0, none⟩ = some (.int .u8 105) := hN3.op
  have c36 := hN3.parts
  have cp3 : (w1.alloc (.cells (cs 16 x.sem) 95)).cell? ⟨w.heap.size, 0, none⟩ = some (.pointer (some ⟨b, 0, none⟩)) := cell_grown hp1 (below_new (Below.refl _ _) _)
  have cg3 : (w1.alloc (.cells (cs 16 x.sem) 95)).cell? ⟨g, 1, none⟩ = some (.pointer (some ⟨e', 0, none⟩)) := cell_grown hg1 hB3
  go_wp2_with (refine wp_store_New rfl 95 _ _ rfl rfl (f := x.sem) rfl rfl trans_i ?_)
  refine (ihy e' S _ (Tree.grown hB3 y e' hy)).mono ?_
  rintro e w2 ⟨rfl, hb2⟩
  have hB2 := below_step hB3 hb2
  have hB5 := below_new hB2 (.cells (cs 16 y.sem) 95)
  have hN5 : Node (w2.alloc (.cells (cs 16 y.sem) 95)) b 105 (lastD d) (relD d) (.slice (some ⟨g, 0, none⟩) 2 cap) (Ct.n2 105 d x y).text := hN.grown hB5
  have c50 : (w2.alloc (.cells (cs 16 y.sem) 95)).cell? ⟨b, 0, none⟩ = some (.int .u8 105) := hN5.op
  have cp5 : (w2.alloc (.cells (cs 16 y.sem) 95)).cell? ⟨w.heap.size, 0, none⟩ = some (.pointer (some ⟨b, 0, none⟩)) := cell_grown (cell_grown cp3 hb2) (below_new (Below.refl _ _) _)
  have RX : Row (w2.alloc (.cells (cs 16 y.sem) 95)) w1.heap.size 95 16 x.sem := ((Row.new w1 _ 16 _).grown hb2).old _
  have RY : Row (w2.alloc (.cells (cs 16 y.sem) 95)) w2.heap.size 95 16 y.sem := Row.new w2 _ 16 _

  have HC : C (dsF d 0) := dsF_c ht.1.2 0
  have HS : Hid ((Ct.n2 105 d x y).sem = iteT (lastD d) x.sem y.sem) := by show _ = _; rw [lastD1 hn]; rfl
  go_wp2_with (refine wp_store_New rfl 95 _ _ rfl rfl (f := y.sem) rfl rfl trans_i ?_)
  refine (impl_makeTrans _ _ _ (iteT (lastD d) x.sem y.sem) _ (enters_of Tryz.func98 (by kernel_rfl) rfl) ?_).mono ?_
  · intro W q hq hW
    exact impl_ite1 x.sem y.sem q hq b _ _ _ 105 (lastD d) (relD d) _ _ W (hN5.grown hW) (RX.grown hW) (RY.grown hW) (cell_grown cp5 hW)
  rintro e w3 ⟨rfl, hb3⟩
  have HR0 : Row w3 (w.heap.size + 1) 95 16 (fun _ => 0) := ((((hz1.old _).grown hb2).old _).grown hb3)
  go_wp2_with (refine wp_store_Row rfl 95 _ _ rfl (w.heap.size + 1) rfl (f := iteT (lastD d) x.sem y.sem) rfl HR0 trans_i ?_)
  refine ret_Row rfl (w.heap.size + 1) rfl (HR0.setRow _) trans_u rfl trans_i rfl ⟨by rw [HS.out], below_setRow ?_ (by omega) _⟩
  exact below_step hB5 hb3

theorem impl_trans : ∀ t : Ct, t.WF → TrImp t
  | .n0 o d, ht => by
    rcases shp0 ht.1 with ⟨rfl | rfl | rfl, hn⟩ | ⟨rfl | rfl, hn⟩ | ⟨rfl | rfl, hn⟩
    · exact impl_tr115 d ht hn
    · exact impl_tr97 d ht hn
    · exact impl_tr109 d ht hn
    · exact impl_tr33 d ht hn
    · exact impl_tr63 d ht hn
    · exact impl_tr65 d ht hn
    · exact impl_tr68 d ht hn
  | .n1 o d x, ht => by
    have ih := impl_trans x ht.2
    rcases shp1 ht.1.1 with ⟨rfl, hn⟩ | ⟨rfl | rfl, hn⟩
    · exact impl_tr119 d x ht hn ih
    · exact impl_tr42 d x ht hn ih
    · exact impl_tr43 d x ht hn ih
  | .n2 o d x y, ht => by
    have ih := impl_trans x ht.2.1
    have ihy := impl_trans y ht.2.2
    rcases shp2 ht.1.1 with ⟨rfl | rfl | rfl, hn⟩ | ⟨rfl, hn⟩
    · exact impl_tr59 d x y ht hn ih ihy
    · exact impl_tr38 d x y ht hn ih ihy
    · exact impl_tr124 d x y ht hn ih ihy
    · exact impl_tr105 d x y ht hn ih ihy
end Go.Proofs.YtaeibhpkcikaaaaGreatDoor
