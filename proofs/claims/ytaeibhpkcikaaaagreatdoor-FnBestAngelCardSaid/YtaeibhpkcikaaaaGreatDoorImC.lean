/- Contracts: the program's counting of statements and its contracts of concrete states. -/
import Derived.Test.YtaeibhpkcikaaaaGreatDoorIm5c
import Derived.Test.YtaeibhpkcikaaaaGreatDoorGF
import Derived.Test.YtaeibhpkcikaaaaGreatDoorGI
import Derived.Test.YtaeibhpkcikaaaaGreatDoorGK
namespace Go.Proofs.YtaeibhpkcikaaaaGreatDoor
set_option linter.unusedVariables false
set_option linter.unusedSimpArgs false
open Go.RowKit Go.Shelf
set_option maxRecDepth 100000
set_option maxHeartbeats 1000000

/-- a statement in memory and its parts -/
theorem Tree.opened {w : World} {S : Nat → Prop} (t : Ct) (b : Nat) (h : Tree w S t b) : ∃ pv, S b ∧ Node w b t.op (lastD t.ds) (relD t.ds) pv t.text ∧
    ((t.parts = [] ∧ pv = .slice none 0 0) ∨ ∃ g cap, S g ∧ pv = .slice (some ⟨g, 0, none⟩) t.parts.length cap ∧ ∀ k x, t.parts[k]? = some x → ∃ c, w.cell? ⟨g, k, none⟩ = some (ptr c) ∧ Tree w S x c) := by
  cases t with
  | n0 o d =>
    obtain ⟨h0, h⟩ := h
    exact ⟨_, h0, h, .inl ⟨rfl, rfl⟩⟩
  | n1 o d x =>
    obtain ⟨g, cap, c, h0, h1, h2, h3⟩ := h
    refine ⟨_, h0.1, h1, .inr ⟨g, cap, h0.2, rfl, fun k y hk => ?_⟩⟩
    match k, hk with
    | 0, hk => simp [Ct.parts] at hk; subst hk; exact ⟨c, h2, h3⟩
    | k + 1, hk => simp [Ct.parts] at hk
  | n2 o d x y =>
    obtain ⟨g, cap, c, e, h0, h1, h2, h3, h4, h5⟩ := h
    refine ⟨_, h0.1, h1, .inr ⟨g, cap, h0.2, rfl, fun k z hk => ?_⟩⟩
    match k, hk with
    | 0, hk => simp [Ct.parts] at hk; subst hk; exact ⟨c, h2, h4⟩
    | 1, hk => simp [Ct.parts] at hk; subst hk; exact ⟨e, h3, h5⟩
    | k + 2, hk => simp [Ct.parts] at hk

/-- the statements whose letters lie in a text -/
def inOps (ops : ByteArray) (o : UInt8) : Bool := decide (0 ≤ firstIdx ops o)
def CntImp (ops : ByteArray) (t : Ct) : Prop := ∀ (b : Nat) (S : Nat → Prop) (w : World), Tree w S t b → Calls Tryz.prog 21 #[.pointer (some ⟨b, 0, none⟩), .string ops] w fun e w' => e = .returned (.int .i64 (t.cnt (inOps ops) : Nat)) ∧ w = w'
theorem impl_cnt (ops : ByteArray) (t : Ct) (hl : t.len ≤ 200) (ih : ∀ z ∈ t.parts, CntImp ops z) : CntImp ops t := by
  intro b S w hT
  obtain ⟨pv, _, hN, hp⟩ := hT.opened
  have hop := hN.op
  have hpt := hN.parts
  have HC := Lib.hid (t.cnt_parts (inOps ops))
  have hle := t.cnt_le (inOps ops)
  have hle2 := t.num_le
  have hle3 : t.cnt (inOps ops) ≤ 200 := by omega
  clear hle hle2 hl
  rcases hp with ⟨hp0, rfl⟩ | ⟨g, cap, _, rfl, hp⟩
  · rw [hp0] at HC
    cases hd : inOps ops t.op
    all_goals
      rw [hd] at HC
      have hd2 : decide (firstIdx ops t.op ≥ 0) = inOps ops t.op := rfl
      rw [hd] at hd2
      have HE : Hid ((t.op.toNat : Int).toNat.toUInt8 = t.op) := u8_back t.op
      clear hd
      go_enter Tryz.func21, Tryz.ntmps21
      go_wp2_with fail
      refine (lib_IndexByte _ _ _).mono ?_
      rintro e w' ⟨rfl, rfl⟩
      rw [HE.out]
      go_wp2_with fail
      go_loop [5, 7, 20] (fun o _ i => i = .int .i64 0 ∧ o = .int .i64 (t.cnt (inOps ops) : Nat)) (fun _ _ _ => 0)
      case atStart => exact ⟨rfl, by rw [HC.out]; rfl⟩
      case round =>
        obtain ⟨rfl, rfl⟩ := hrel
        go_wp2_with fail
        go_ret
        exact ⟨rfl, rfl⟩
  · cases hd : inOps ops t.op
    all_goals
      rw [hd] at HC
      have hd2 : decide (firstIdx ops t.op ≥ 0) = inOps ops t.op := rfl
      rw [hd] at hd2
      have HE : Hid ((t.op.toNat : Int).toNat.toUInt8 = t.op) := u8_back t.op
      have HPL := Lib.hid t.parts_le
      clear hd
      go_enter Tryz.func21, Tryz.ntmps21
      go_wp2_with fail
      refine (lib_IndexByte _ _ _).mono ?_
      rintro e w' ⟨rfl, rfl⟩
      rw [HE.out]
      go_wp2_with fail
      generalize hL : t.parts = L at *
      clear hL
      go_loop [5, 7, 20] (fun o _ i => ∃ us vs : List Ct, ∃ n : Nat, L = us ++ vs ∧ i = .int .i64 (us.length : Nat) ∧ o = .int .i64 (n : Nat) ∧ t.cnt (inOps ops) = n + sumCnt (inOps ops) vs) (fun _ _ i => 2 - (intOf i).toNat)
      case atStart => exact ⟨[], L, _, rfl, rfl, rfl, by rw [HC.out]; rfl⟩
      case round =>
        obtain ⟨us, vs, n, hpv, rfl, rfl, hc⟩ := hrel
        cases vs with
        | nil =>
          have hpe : L = us := by simpa using hpv
          subst hpe
          have HX := Lib.hid hc
          clear hpv hc
          go_wp2_with fail
          go_ret
          exact ⟨ret_int (by rw [HX.out]; rfl), rfl⟩
        | cons z vs =>
          have hz : z ∈ L := by rw [hpv]; simp
          obtain ⟨c, hcell, hTz⟩ := hp us.length z (by rw [hpv]; simp)
          unfold ptr at hcell
          have hlt : ((us.length : Nat) : Int) < (L.length : Int) := by rw [hpv]; simp; omega
          have hnk := ih z hz c S _ hTz
          have hsum : n + z.cnt (inOps ops) ≤ 200 := by simp only [sumCnt] at hc; omega
          have HX := Lib.hid hc
          have HPV := Lib.hid hpv
          have h2 : us.length ≤ 2 := by have := HPL.out; rw [hpv] at this; simp at this; omega
          clear hpv hc hp ih
          generalize hk : us.length = k at *
          have HK2 := Lib.hid hk
          clear hk
          generalize hcz : z.cnt (inOps ops) = cz at *
          have HCZ := Lib.hid hcz
          clear hcz
          go_wp2_with fail
          refine hnk.mono ?_
          rintro e w' ⟨rfl, rfl⟩
          go_wp2_with fail
          go_round
          case rel => exact ⟨us ++ [z], vs, n + cz, by rw [HPV.out]; simp, by have := HK2.out; simp [this], by push_cast; go_num, by rw [HX.out]; simp only [sumCnt]; rw [HCZ.out]; omega⟩
          case measure => have := HPL.out; simp [intOf]; omega
theorem impl_count (ops : ByteArray) : ∀ t : Ct, t.len ≤ 200 → CntImp ops t
  | .n0 o d, hl => impl_cnt ops _ hl (by simp [Ct.parts])
  | .n1 o d x, hl => by
    have ihx := impl_count ops x (by rw [Ct.len1] at hl; omega)
    exact impl_cnt ops _ hl (by simp only [Ct.parts, List.mem_cons, List.not_mem_nil, or_false]; rintro z rfl; exact ihx)
  | .n2 o d x y, hl => by
    have ihx := impl_count ops x (by rw [Ct.len2] at hl; omega)
    have ihy := impl_count ops y (by rw [Ct.len2] at hl; omega)
    refine impl_cnt ops _ hl ?_
    simp only [Ct.parts, List.mem_cons, List.not_mem_nil, or_false]
    rintro z (rfl | rfl)
    · exact ihx
    · exact ihy
theorem head_text (t : Ct) : t.text.extract 0 (1 + t.ds.length) = ⟨t.headB.toArray⟩ := by
  apply ByteArray.ext; apply Array.ext'
  simp only [ByteArray.data_extract, Array.toList_extract, List.extract_eq_take_drop, Ct.text]
  rw [Ct.bytes_parts]
  simp only [List.drop_zero, Nat.sub_zero]
  exact List.take_left' (by simp [Ct.headB]; omega)
end Go.Proofs.YtaeibhpkcikaaaaGreatDoor
