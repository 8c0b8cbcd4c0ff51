/- Plays with the best choices: the program's parts. -/
import Derived.Test.YtaeibhpkcikaaaaGreatDoorImT
import Derived.Test.YtaeibhpkcikaaaaGreatDoorSpB2
import Derived.Test.YtaeibhpkcikaaaaGreatDoorShelfT
namespace Go.Proofs.YtaeibhpkcikaaaaGreatDoor
set_option linter.unusedVariables false
set_option linter.unusedSimpArgs false
open Go.RowKit Go.Shelf
set_option maxRecDepth 100000
set_option maxHeartbeats 4000000

theorem loopW_all : ∀ n : _root_.Fin 256, inOps loopW (UInt8.ofNat n.val) = !nlp (UInt8.ofNat n.val) := by decide +kernel
theorem loopW_nlp (o : UInt8) : inOps loopW o = !nlp o := by
  have := loopW_all ⟨o.toNat, o.toNat_lt⟩
  simpa using this
theorem cnt_none (p : UInt8 → Bool) : ∀ t : Ct, t.cnt p = 0 ↔ t.knows (fun o => !p o) = true
  | .n0 o d => by simp only [Ct.cnt, Ct.knows]; cases p o <;> simp
  | .n1 o d x => by
    have := cnt_none p x
    simp only [Ct.cnt, Ct.knows, Bool.and_eq_true]
    rw [← this]
    cases p o <;> simp
  | .n2 o d x y => by
    have := cnt_none p x
    have := cnt_none p y
    simp only [Ct.cnt, Ct.knows, Bool.and_eq_true]
    rw [← cnt_none p x, ← cnt_none p y]
    cases p o <;> simp
theorem cnt_loop (t : Ct) : t.cnt (inOps loopW) = 0 ↔ t.flat = true := by
  rw [cnt_none]
  have : (fun o => !inOps loopW o) = nlp := by funext o; rw [loopW_nlp]; simp
  rw [this]; rfl
theorem dropW_head {q : UInt8 → Bool} : ∀ (l : List UInt8) (a : UInt8) (m : List UInt8), l.dropWhile q = a :: m → q a = false
  | [], _, _, h => by simp at h
  | b :: l, a, m, h => by
    cases hq : q b
    · simp only [List.dropWhile, hq] at h
      injection h with h1 h2
      rw [← h1]; exact hq
    · simp only [List.dropWhile, hq] at h
      exact dropW_head l a m h
theorem dropW_nil {q : UInt8 → Bool} : ∀ (l : List UInt8), l.dropWhile q = [] ↔ ∀ x ∈ l, q x = true
  | [] => by simp
  | b :: l => by
    have ih := dropW_nil (q := q) l
    cases hq : q b
    · simp [List.dropWhile, hq]
    · simp only [List.dropWhile, hq, ih]
      simp [hq]
theorem trimS_nil (l cs : List UInt8) : Lib.trimS l cs = [] ↔ l.all (fun b => cs.contains b) = true := by
  unfold Lib.trimS Lib.trimLeftS Lib.trimRightS
  rw [List.all_eq_true]
  constructor
  · intro h
    cases hm : l.reverse.dropWhile (fun x => cs.contains x) with
    | nil =>
      intro x hx
      rw [dropW_nil] at hm
      exact hm x (by simpa using hx)
    | cons a m =>
      have h1 := dropW_head _ _ _ hm
      rw [hm, dropW_nil] at h
      have h2 := h a (by simp)
      rw [h1] at h2; cases h2
  · intro h
    have hm : l.reverse.dropWhile (fun x => cs.contains x) = [] := by
      rw [dropW_nil]
      intro x hx
      exact h x (by simpa using hx)
    rw [hm]; rfl
def digW : ByteArray := ⟨#[48, 49, 50, 51, 52, 53, 54, 55, 56, 57]⟩
theorem digW_all : ∀ n : _root_.Fin 256, digW.data.toList.contains (UInt8.ofNat n.val) = digB (UInt8.ofNat n.val) := by decide +kernel
theorem digW_digB (b : UInt8) : digW.data.toList.contains b = digB b := by
  have := digW_all ⟨b.toNat, b.toNat_lt⟩
  simpa using this
theorem trim_digs (s : ByteArray) : Lib.trimS s.data.toList digW.data.toList = [] ↔ digsOk s = true := by
  rw [trimS_nil]
  have : (fun b => digW.data.toList.contains b) = digB := by funext b; exact digW_digB b
  rw [this]; rfl
theorem impl_digs (s : ByteArray) (hs : s.size ≤ 4611686018427387904) (w : World) : Calls Tryz.prog 24 #[.string s, .string digW] w fun e w' => (∃ r : ByteArray, e = .returned (.string r) ∧ ((r.size = 0) ↔ digsOk s = true)) ∧ Below w.heap.size w w' := by
  refine (Tryz.strings_Trim s digW w (by omega) (by decide) (fun j b h => ?_)).mono ?_
  · have hm : b ∈ digW.data.toList := List.mem_of_getElem? h
    have hb : digB b = true := by rw [← digW_digB, List.contains_iff_mem]; exact hm
    have := (by simpa [digB] using hb : 48 ≤ b.toNat ∧ b.toNat ≤ 57)
    omega
  · rintro e w' ⟨rfl, hb⟩
    refine ⟨⟨_, rfl, ?_⟩, hb⟩
    rw [← trim_digs]
    show (Lib.trimS s.data.toList digW.data.toList).toArray.size = 0 ↔ _
    rw [List.size_toArray, List.length_eq_zero_iff]
theorem Trees.at {w : World} {S : Nat → Prop} : ∀ (ts : List Ct) (bs : List Nat), Trees w S ts bs → ∀ (k : Nat) (t : Ct), ts.reverse[k]? = some t → ∃ b : Nat, bs.reverse[k]? = some b ∧ Tree w S t b
  | [], [], _, k, t, h => by simp at h
  | t0 :: ts, b0 :: bs, ⟨h, hr⟩, k, t, hk => by
    have hl := hr.length
    rw [List.reverse_cons] at hk ⊢
    by_cases hlt : k < ts.reverse.length
    · rw [List.getElem?_append_left hlt] at hk
      obtain ⟨b, hb, hT⟩ := Trees.at ts bs hr k t hk
      exact ⟨b, by rw [List.getElem?_append_left (by simp at hlt ⊢; omega)]; exact hb, hT⟩
    · rw [List.getElem?_append_right (by omega)] at hk
      have hk0 : k - ts.reverse.length = 0 := by
        have := (List.getElem?_eq_some_iff.1 hk).1
        simp at this ⊢; omega
      rw [hk0] at hk
      simp at hk
      subst hk
      refine ⟨b0, ?_, h⟩
      rw [List.getElem?_append_right (by simp at hlt ⊢; omega)]
      have e : k - bs.reverse.length = 0 := by simp at hk0 hlt ⊢; omega
      rw [e]; rfl
  | [], _ :: _, h, _, _, _ => h.elim
  | _ :: _, [], h, _, _, _ => h.elim
theorem AtP.at {w : World} {S : Nat → Prop} {ts : List Ct} {g cap : Nat} (h : AtP w S ts g cap) {k : Nat} {t : Ct} (hk : ts.reverse[k]? = some t) : ∃ b, w.cell? ⟨g, k, none⟩ = some (ptr b) ∧ Tree w S t b := by
  obtain ⟨bs, h1, h2, _⟩ := h
  obtain ⟨b, hb, hT⟩ := Trees.at ts bs h2 k t hk
  exact ⟨b, h1.lies k b hb, hT⟩
theorem impl_wins (S : Nat → Prop) (ts : List Ct) (hf : FitC ts) (s : Nat) (hs : s < 4) (p : Int) (hp : C p) (L : Nat) (hL : ts.length = L) (hl : L ≤ 1000) (g cap : Nat) (n : Int) (w : World) (hT : AtP w S ts g cap) :
    Calls Tryz.prog 29 #[.agg #[.int .i64 s, .slice (some ⟨g, 0, none⟩) L cap, .int .i64 n], .int .i64 p] w fun e w' => e = .returned (.bool (has (semL ts p) s)) ∧ Below w.heap.size w w' := by
  have HB0 := Blk.new w 50 #[.int .i64 s, .slice (some ⟨g, 0, none⟩) L cap, .int .i64 n]
  have hb0 := below_new (Below.refl w.heap.size w) (Obj.cells #[.int .i64 s, .slice (some ⟨g, 0, none⟩) L cap, .int .i64 n] 50)
  have HT := Lib.hid (hT.grown hb0)
  have HL := Lib.hid hL
  have H00 : semL (ts.drop (L - 0)) p = p := by rw [Nat.sub_zero, ← HL.out, List.drop_length]; rfl
  obtain ⟨c0, c1, c2⟩ := HB0.cell3
  clear hT hL
  go_enter Tryz.func29, Tryz.ntmps29
  go_wp2_with fail
  clear c0 c1 c2
  go_loopw [1, 10] (fun q i wr => ∃ k : Nat, k ≤ L ∧ i = .int .i64 k ∧ q = .int .i64 (semL (ts.drop (L - k)) p) ∧ Blk wr w.heap.size 50 #[.int .i64 s, .slice (some ⟨g, 0, none⟩) L cap, .int .i64 n] ∧ AtP wr S ts g cap ∧ Below w.heap.size w wr) (fun _ i _ => L - (intOf i).toNat)
  case atStart => exact ⟨0, by omega, rfl, by rw [H00], HB0, HT.out, hb0⟩
  case round =>
    obtain ⟨k, hk, rfl, rfl, HB, HTd, hb⟩ := hrel
    clear HB0 hb0 HT H00
    obtain ⟨c0, c1, c2⟩ := HB.cell3
    have hcq : C (semL (ts.drop (L - k)) p) := semL_c (fun x hx => hf x (List.mem_of_mem_drop hx)) hp
    by_cases hlt : k < L
    · obtain ⟨t, ht⟩ : ∃ t, ts.reverse[k]? = some t := ⟨ts.reverse[k]'(by rw [List.length_reverse, HL.out]; exact hlt), List.getElem?_eq_getElem _⟩
      obtain ⟨b, hcell, hTb⟩ := HTd.at ht
      have hft := fit_at hf ht
      have HSD : Hid (semL (ts.drop (L - (k + 1))) p = t.sem (semL (ts.drop (L - k)) p).toNat) := by have := sem_drop ht p; rwa [HL.out] at this
      have ek : (k : Int) < (L : Nat) := by omega
      clear ht
      have HTR := Lib.hid (fun w => impl_trans t hft.1 b S w)
      generalize semL (ts.drop (L - k)) p = q at *
      obtain ⟨j, rfl⟩ := Int.eq_ofNat_of_zero_le hcq.1
      have hj : j < 16 := by have := hcq.2; omega
      have hx := fun W => run_index_cs (P := Tryz.prog) W 95 3 16 t.sem j .i64 hj trans_u Tryz.underlying3 (by kernel_rfl)
      unfold ptr at hcell
      clear hcq hft
      go_wp2_with fail
      refine (HTR.out _ hTb).mono ?_
      rintro e w1 ⟨rfl, hb1⟩
      go_wp2_with fail
      refine ⟨⟨k + 1, by omega, by go_num, by rw [HSD.out]; simp, HB.grown hb1, HTd.grown hb1, below_step hb hb1⟩, by simp [intOf]; omega⟩
    · obtain rfl : k = L := by omega
      rw [Nat.sub_self, List.drop_zero] at hcq ⊢
      go_wp2_with fail
      refine (impl_HasState hcq hs _).mono ?_
      rintro e w' ⟨rfl, rfl⟩
      go_wp2_with fail
      go_ret
      exact ⟨rfl, hb⟩
end Go.Proofs.YtaeibhpkcikaaaaGreatDoor
