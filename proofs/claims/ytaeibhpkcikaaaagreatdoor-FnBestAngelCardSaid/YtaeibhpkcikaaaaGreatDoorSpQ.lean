/- Plays: letters of contracts, the reference; which contracts are small. -/
import Derived.Test.YtaeibhpkcikaaaaGreatDoorGN
import Derived.Test.YtaeibhpkcikaaaaGreatDoorGL
namespace Go.Proofs.YtaeibhpkcikaaaaGreatDoor
set_option linter.unusedVariables false
set_option linter.unusedSimpArgs false
open Go.RowKit Go.Shelf
set_option maxRecDepth 100000
set_option maxHeartbeats 4000000

def ltB (l : List UInt8) : ByteArray := ⟨l.toArray⟩
theorem ltB_app (a b : List UInt8) : ltB a ++ ltB b = ltB (a ++ b) := by
  apply ByteArray.ext; apply Array.ext'
  simp [ltB, ByteArray.data_append]
theorem ltB_size (l : List UInt8) : (ltB l).size = l.length := by simp [ltB, ByteArray.size]
theorem bt_ltB (l : List UInt8) (j : Nat) (hj : j < l.length) : bt (ltB l) j = l[j] := by
  simp [bt, ltB, List.getD_eq_getElem?_getD, hj]
theorem find_mem (l : List UInt8) (c : UInt8) : decide (0 ≤ firstIdx (ltB l) c) = decide (c ∈ l) := by
  rw [Bool.eq_iff_iff, decide_eq_true_iff, decide_eq_true_iff]
  constructor
  · intro h
    refine Classical.byContradiction fun hn => ?_
    have : firstIdx (ltB l) c = -1 := firstIdx_none _ _ fun j hj e => hn ?_
    · omega
    · rw [ltB_size] at hj
      rw [bt_ltB l j hj] at e
      exact e ▸ List.getElem_mem hj
  · intro h
    obtain ⟨j, hj, e2⟩ := List.getElem_of_mem h
    refine Classical.byContradiction fun hn => ?_
    unfold firstIdx at hn
    cases hf : (List.range (ltB l).size).find? (fun i => (ltB l)[i]! == c) with
    | some i => rw [hf] at hn; exact hn (Int.natCast_nonneg i)
    | none =>
      rw [List.find?_eq_none] at hf
      refine hf j (by rw [ltB_size]; simpa using hj) ?_
      have hs : j < (ltB l).size := by rw [ltB_size]; exact hj
      rw [getElem!_pos (ltB l) j hs, bt_get (ltB l) j hs, bt_ltB l j hj, e2]
      simp
def Ct.letters : Ct → List UInt8
  | n0 o _ => [o]
  | n1 o _ x => o :: x.letters
  | n2 o _ x y => o :: (x.letters ++ y.letters)
def letL : List Ct → List UInt8
  | [] => []
  | x :: l => x.letters ++ letL l
theorem letL_app (l m : List Ct) : letL (l ++ m) = letL l ++ letL m := by
  induction l with
  | nil => rfl
  | cons x l ih => simp [letL, ih]
theorem Ct.letters_parts (t : Ct) : t.letters = t.op :: letL t.parts := by cases t <;> simp [letters, op, parts, letL]
theorem Ct.letters_len : ∀ t : Ct, t.letters.length = t.num
  | .n0 o d => rfl
  | .n1 o d x => by simp only [letters, num, List.length_cons, letters_len x]; omega
  | .n2 o d x y => by simp only [letters, num, List.length_cons, List.length_append, letters_len x, letters_len y]; omega
theorem Ct.letters_knows (p : UInt8 → Bool) : ∀ t : Ct, t.letters.all p = t.knows p
  | .n0 o d => by simp [letters, knows]
  | .n1 o d x => by simp [letters, knows, ← letters_knows p x]
  | .n2 o d x y => by simp [letters, knows, ← letters_knows p x, ← letters_knows p y]
theorem letL_take (l : List Ct) (k : Nat) (x : Ct) (h : l[k]? = some x) : letL (l.take (k + 1)) = letL (l.take k) ++ x.letters := by
  obtain ⟨hk, rfl⟩ := List.getElem?_eq_some_iff.1 h
  rw [List.take_succ_eq_append_getElem hk, letL_app]
  simp [letL]
theorem letL_le (l : List Ct) (k : Nat) : (letL (l.take k)).length ≤ (letL l).length := by
  have h := congrArg List.length (letL_app (l.take k) (l.drop k))
  rw [List.take_append_drop, List.length_append] at h
  omega
theorem head_extract (t : Ct) : t.text.extract 0 1 = ltB [t.op] := by
  obtain ⟨r, e⟩ := t.bytes_head
  apply ByteArray.ext; apply Array.ext'
  simp [Ct.text, ltB, e]
def LetS (t : Ct) : Prop := ∀ w : World, Calls Tryz.prog 44 #[.string t.text] w fun e w' => e = .returned (.string (ltB t.letters)) ∧ Below w.heap.size w w'
theorem spec_lets (t : Ct) (ht : t.WF) (hl : t.len ≤ 200) (ih : ∀ z ∈ t.parts, LetS z) : LetS t := by
  intro w
  have HX := Lib.hid (head_extract t)
  have hsz : 1 ≤ t.text.size := by rw [t.text_size]; exact t.len_pos
  have HP := Lib.hid (spec_l5Parts t ht hl w)
  have HLP := Lib.hid t.letters_parts
  have hpl := t.parts_le
  have hln : (letL t.parts).length ≤ 200 := by
    have h1 := t.letters_len
    have h2 := t.num_le
    rw [t.letters_parts] at h1
    simp only [List.length_cons] at h1
    omega
  have HIH := Lib.hid ih
  have hsz2 : ((t.text.size : Int)) ≤ 200 := by rw [t.text_size]; omega
  clear ih ht hl
  generalize t.text = T at *
  go_enter Tryz.func44, Tryz.ntmps44
  go_wp2_with fail
  refine HP.out.mono ?_
  rintro e w1 ⟨⟨g, cap, rfl, hT⟩, hb⟩
  rw [HX.out]
  go_wp2_with fail
  go_loopw [3, 5] (fun o i wr => ∃ k : Nat, k ≤ t.parts.length ∧ i = .int .i64 k ∧ o = .string (ltB (t.op :: letL (t.parts.take k))) ∧ TextsAt wr g t.parts ∧ Below w.heap.size w wr) (fun _ i _ => t.parts.length - (intOf i).toNat)
  case atStart => exact ⟨0, by omega, rfl, rfl, hT, hb⟩
  case round =>
    clear hT hb
    obtain ⟨k, hk, rfl, rfl, hT, hb⟩ := hrel
    by_cases hlt : k < t.parts.length
    · have hki : (k : Int) < (t.parts.length : Nat) := by omega
      obtain ⟨x, hx⟩ : ∃ x, t.parts[k]? = some x := ⟨t.parts[k], by simp [hlt]⟩
      have hc : wr.cell? ⟨g, k, none⟩ = some (.string x.text) := hT k x hx
      have HI := HIH.out x (List.mem_of_getElem? hx)
      have HTK := Lib.hid (letL_take t.parts k x hx)
      have hle := letL_le t.parts (k + 1)
      rw [HTK.out, List.length_append] at hle
      have hs1 := ltB_size (t.op :: letL (t.parts.take k))
      have hs2 := ltB_size x.letters
      simp only [List.length_cons] at hs1
      have HA := Lib.hid (ltB_app (t.op :: letL (t.parts.take k)) x.letters)
      have hq1 : (ltB (t.op :: letL (t.parts.take k))).size ≤ 201 := by omega
      have hq2 : (ltB x.letters).size ≤ 201 := by omega
      clear hx hle hs1 hs2
      generalize hA1 : ltB (t.op :: letL (t.parts.take k)) = A1 at *
      clear hA1
      go_wp2_with fail
      refine (HI _).mono ?_
      rintro e w2 ⟨rfl, hb2⟩
      go_wp2_with fail
      go_roundw
      case rel => exact ⟨k + 1, by omega, by go_num, by rw [HTK.out, HA.out]; rfl, hT.grown hb2, below_step hb hb2⟩
      case measure => simp [intOf]; omega
    · have hke : k = t.parts.length := by omega
      have HE : Hid (t.op :: letL (t.parts.take k) = t.letters) := by show _ = _; rw [hke, List.take_length, HLP.out]
      clear hke
      rw [HE.out]
      go_wp2_with fail
      go_ret
      exact ⟨rfl, hb⟩
theorem spec_lets_n (n : Nat) : ∀ t : Ct, t.len ≤ n → t.WF → t.len ≤ 200 → LetS t := by
  induction n with
  | zero => intro t h; have := t.len_pos; omega
  | succ n ih => intro t h ht hl; exact spec_lets t ht hl fun z hz => ih z (by have := Ct.len_part hz; omega) (Ct.parts_wf ht z hz) (by have := Ct.len_part hz; omega)
theorem spec_l5Letters (t : Ct) (ht : t.WF) (hl : t.len ≤ 200) : LetS t := spec_lets_n t.len t (Nat.le_refl _) ht hl
/-- has a text one of some letters? -/
def anyIn (s L : ByteArray) (n : Nat) : Bool := (List.range n).any fun j => decide (0 ≤ firstIdx s (bt L j))
theorem anyIn_succ (s L : ByteArray) (n : Nat) : anyIn s L (n + 1) = (anyIn s L n || decide (0 ≤ firstIdx s (bt L n))) := by simp [anyIn, List.range_succ]
theorem anyIn_of {s L : ByteArray} {k n : Nat} (h : decide (0 ≤ firstIdx s (bt L k)) = true) (hk : k < n) : anyIn s L n = true := by
  unfold anyIn; rw [List.any_eq_true]; exact ⟨k, by simpa using hk, h⟩
theorem spec_l5Any (s L : ByteArray) (hs : s.size ≤ 4294967296) (hL : L.size ≤ 1000) (w : World) : Calls Tryz.prog 43 #[.string s, .string L] w fun e w' => e = .returned (.bool (anyIn s L L.size)) ∧ w = w' := by
  go_enter Tryz.func43, Tryz.ntmps43
  go_wp2_with fail
  go_loop [5] (fun i => ∃ k : Nat, k ≤ L.size ∧ i = .int .i64 k ∧ Hid (anyIn s L k = false)) (fun i => L.size - (intOf i).toNat)
  case atStart => exact ⟨0, by omega, rfl, rfl⟩
  case round =>
    obtain ⟨k, hk, rfl, H⟩ := hrel
    by_cases hlt : k < L.size
    · have HS := Lib.hid (anyIn_succ s L k)
      cases hd : decide (0 ≤ firstIdx s (bt L k))
      · have hn : ¬ 0 ≤ firstIdx s (bt L k) := by simpa using hd
        have H2 : Hid (anyIn s L (k + 1) = false) := by show _ = _; rw [HS.out, H.out, hd]; rfl
        clear hd
        go_wp2_with fail
        refine (spec_l14Find _ _ _ hs).mono ?_
        rintro e w' ⟨rfl, rfl⟩
        go_wp2_with fail
        go_round
        case rel => exact ⟨k + 1, by omega, by go_num, H2⟩
        case measure => simp [intOf]; omega
      · have hn : 0 ≤ firstIdx s (bt L k) := by simpa using hd
        have H2 := Lib.hid (anyIn_of hd hlt)
        clear hd
        go_wp2_with fail
        refine (spec_l14Find _ _ _ hs).mono ?_
        rintro e w' ⟨rfl, rfl⟩
        go_wp2_with fail
        go_ret
        rw [H2.out]
        exact ⟨rfl, rfl⟩
    · obtain rfl : k = L.size := by omega
      go_wp2_with fail
      go_ret
      rw [H.out]
      exact ⟨rfl, rfl⟩
def loopW : ByteArray := ⟨#[119, 42, 43]⟩
theorem any_loop (t : Ct) : anyIn (ltB t.letters) loopW loopW.size = !t.flat := by
  have h : anyIn (ltB t.letters) loopW loopW.size = (decide ((119 : UInt8) ∈ t.letters) || decide ((42 : UInt8) ∈ t.letters) || decide ((43 : UInt8) ∈ t.letters)) := by
    rw [← find_mem, ← find_mem, ← find_mem]
    have h3 : loopW.size = 3 := rfl
    rw [h3]
    simp [anyIn, List.range_succ, bt, loopW, Bool.or_assoc]
  rw [h]
  unfold Ct.flat
  rw [← Ct.letters_knows]
  rw [Bool.eq_iff_iff]
  simp only [Bool.or_eq_true, decide_eq_true_eq, Bool.not_eq_true', List.all_eq_false, nlp, Bool.not_eq_true', Bool.not_eq_false', Bool.not_not, beq_iff_eq]
  constructor
  · rintro ((h | h) | h)
    · exact ⟨119, h, by simp⟩
    · exact ⟨42, h, by simp⟩
    · exact ⟨43, h, by simp⟩
  · rintro ⟨x, hx, h⟩
    by_cases h1 : x = 119
    · subst h1; exact .inl (.inl hx)
    · by_cases h2 : x = 42
      · subst h2; exact .inl (.inr hx)
      · simp [h1, h2] at h
        subst h; exact .inr hx
theorem spec_HasLoops (t : Ct) (ht : t.WF) (hl : t.len ≤ 200) (w : World) : Calls Tryz.prog 12 #[.string t.text] w fun e w' => e = .returned (.bool (!t.flat)) ∧ Below w.heap.size w w' := by
  have H : Hid (isCt t.text = true) := isCt_txt ht hl
  have HA := Lib.hid (any_loop t)
  have hq : (ltB t.letters).size ≤ 4294967296 := by rw [ltB_size, t.letters_len]; have := t.num_le; omega
  have hc : t.text.size ≤ 4611686018427387904 := by rw [t.text_size]; omega
  go_enter Tryz.func12, Tryz.ntmps12
  go_wp2_with fail
  refine (spec_ContractValid _ _ hc).mono ?_
  rintro e w' ⟨rfl, rfl⟩
  rw [H.out]
  go_wp2_with fail
  refine (spec_l5Letters t ht hl _).mono ?_
  rintro e w1 ⟨rfl, hb1⟩
  go_wp2_with fail
  refine (spec_l5Any _ loopW hq (by decide) _).mono ?_
  rintro e w' ⟨rfl, rfl⟩
  rw [HA.out]
  go_wp2_with fail
  go_ret
  exact ⟨rfl, hb1⟩
/-- contracts with few plays -/
def smallC (t : Ct) (s : Int) : Bool := stOk s && t.flat && decide (t.num ≤ 10)
end Go.Proofs.YtaeibhpkcikaaaaGreatDoor
