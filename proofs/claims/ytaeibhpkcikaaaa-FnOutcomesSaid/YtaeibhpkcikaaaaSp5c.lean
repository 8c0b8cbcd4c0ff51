/- Contracts: the reference's heads, parts and transformers of contracts (printed by mk5c.py). -/
import Derived.Test.YtaeibhpkcikaaaaGJ
import Derived.Test.YtaeibhpkcikaaaaGF
import Derived.Test.YtaeibhpkcikaaaaSpF
namespace Go.Proofs.Ytaeibhpkcikaaaa
set_option linter.unusedVariables false
set_option linter.unusedSimpArgs false
open Go.RowKit Go.Shelf
set_option maxRecDepth 100000
set_option maxHeartbeats 1000000

theorem string_info3 : (Try.prog.info? 9).map (fun i => (i.zero, i.size, i.bytes)) = some (some (.string ⟨#[]⟩), 1, 16) := by kernel_rfl
theorem op_text (t : Ct) : bt t.text 0 = t.op := (lies_text t).op
theorem spec_l5Head (t : Ct) (ht : t.WF) (w : World) : Calls Try.prog 160 #[.string t.text] w fun e w' => e = .returned (.int .i64 ((1 + t.ds.length : Nat) : Int)) ∧ w = w' := by
  have hop := op_text t
  have hsz : 0 < t.text.size := by rw [t.text_size]; exact t.len_pos
  have hs := ht.shape
  have hn : t.nparts = 0 ∨ t.nparts = 1 ∨ t.nparts = 2 := by cases t <;> simp [Ct.nparts]
  rcases hn with hn | hn | hn
  · rw [hn] at hs
    rcases shp0 hs with ⟨h | h | h, hn0⟩ | ⟨h | h, hn0⟩ | ⟨h | h, hn0⟩
    · have hb : ((bt t.text 0).toNat : Int) = 115 := by rw [hop, h]; rfl
      have HN := Lib.hid hn0
      clear hop hs hn h hn0
      go_enter Try.func160, Try.ntmps160
      go_wp2_with fail
      go_ret
      exact ⟨ret_int (by rw [HN.out]; rfl), rfl⟩
    · have hb : ((bt t.text 0).toNat : Int) = 97 := by rw [hop, h]; rfl
      have HN := Lib.hid hn0
      clear hop hs hn h hn0
      go_enter Try.func160, Try.ntmps160
      go_wp2_with fail
      go_ret
      exact ⟨ret_int (by rw [HN.out]; rfl), rfl⟩
    · have hb : ((bt t.text 0).toNat : Int) = 109 := by rw [hop, h]; rfl
      have HN := Lib.hid hn0
      clear hop hs hn h hn0
      go_enter Try.func160, Try.ntmps160
      go_wp2_with fail
      go_ret
      exact ⟨ret_int (by rw [HN.out]; rfl), rfl⟩
    · have hb : ((bt t.text 0).toNat : Int) = 33 := by rw [hop, h]; rfl
      have HN := Lib.hid hn0
      clear hop hs hn h hn0
      go_enter Try.func160, Try.ntmps160
      go_wp2_with fail
      go_ret
      exact ⟨ret_int (by rw [HN.out]; rfl), rfl⟩
    · have hb : ((bt t.text 0).toNat : Int) = 63 := by rw [hop, h]; rfl
      have HN := Lib.hid hn0
      clear hop hs hn h hn0
      go_enter Try.func160, Try.ntmps160
      go_wp2_with fail
      go_ret
      exact ⟨ret_int (by rw [HN.out]; rfl), rfl⟩
    · have hb : ((bt t.text 0).toNat : Int) = 65 := by rw [hop, h]; rfl
      have HN := Lib.hid hn0
      clear hop hs hn h hn0
      go_enter Try.func160, Try.ntmps160
      go_wp2_with fail
      go_ret
      exact ⟨ret_int (by rw [HN.out]; rfl), rfl⟩
    · have hb : ((bt t.text 0).toNat : Int) = 68 := by rw [hop, h]; rfl
      have HN := Lib.hid hn0
      clear hop hs hn h hn0
      go_enter Try.func160, Try.ntmps160
      go_wp2_with fail
      go_ret
      exact ⟨ret_int (by rw [HN.out]; rfl), rfl⟩
  · rw [hn] at hs
    rcases shp1 hs with ⟨h, hn0⟩ | ⟨h | h, hn0⟩
    · have hb : ((bt t.text 0).toNat : Int) = 119 := by rw [hop, h]; rfl
      have HN := Lib.hid hn0
      clear hop hs hn h hn0
      go_enter Try.func160, Try.ntmps160
      go_wp2_with fail
      go_ret
      exact ⟨ret_int (by rw [HN.out]; rfl), rfl⟩
    · have hb : ((bt t.text 0).toNat : Int) = 42 := by rw [hop, h]; rfl
      have HN := Lib.hid hn0
      clear hop hs hn h hn0
      go_enter Try.func160, Try.ntmps160
      go_wp2_with fail
      go_ret
      exact ⟨ret_int (by rw [HN.out]; rfl), rfl⟩
    · have hb : ((bt t.text 0).toNat : Int) = 43 := by rw [hop, h]; rfl
      have HN := Lib.hid hn0
      clear hop hs hn h hn0
      go_enter Try.func160, Try.ntmps160
      go_wp2_with fail
      go_ret
      exact ⟨ret_int (by rw [HN.out]; rfl), rfl⟩
  · rw [hn] at hs
    rcases shp2 hs with ⟨h | h | h, hn0⟩ | ⟨h, hn0⟩
    · have hb : ((bt t.text 0).toNat : Int) = 59 := by rw [hop, h]; rfl
      have HN := Lib.hid hn0
      clear hop hs hn h hn0
      go_enter Try.func160, Try.ntmps160
      go_wp2_with fail
      go_ret
      exact ⟨ret_int (by rw [HN.out]; rfl), rfl⟩
    · have hb : ((bt t.text 0).toNat : Int) = 38 := by rw [hop, h]; rfl
      have HN := Lib.hid hn0
      clear hop hs hn h hn0
      go_enter Try.func160, Try.ntmps160
      go_wp2_with fail
      go_ret
      exact ⟨ret_int (by rw [HN.out]; rfl), rfl⟩
    · have hb : ((bt t.text 0).toNat : Int) = 124 := by rw [hop, h]; rfl
      have HN := Lib.hid hn0
      clear hop hs hn h hn0
      go_enter Try.func160, Try.ntmps160
      go_wp2_with fail
      go_ret
      exact ⟨ret_int (by rw [HN.out]; rfl), rfl⟩
    · have hb : ((bt t.text 0).toNat : Int) = 105 := by rw [hop, h]; rfl
      have HN := Lib.hid hn0
      clear hop hs hn h hn0
      go_enter Try.func160, Try.ntmps160
      go_wp2_with fail
      go_ret
      exact ⟨ret_int (by rw [HN.out]; rfl), rfl⟩

def strs (l : List Ct) : List Value := l.map fun x => .string x.text
/-- a slice of the texts of contracts -/
def TextsAt (w : World) (g : Nat) (l : List Ct) : Prop := ∀ (j : Nat) (x : Ct), l[j]? = some x → w.cell? ⟨g, j, none⟩ = some (.string x.text)
theorem TextsAt.grown {w w' : World} {g : Nat} {l : List Ct} (h : TextsAt w g l) (hb : Below w.heap.size w w') : TextsAt w' g l := fun j x hj => cell_grown (h j x hj) hb
theorem owned_texts {w : World} {base : Nat} {e : TypeId} {v : Value} {l : List Ct} (h : w.ownsRow base e 1 v l.length (strs l)) (hne : v ≠ .slice none 0 0) :
    ∃ g cap, v = .slice (some ⟨g, 0, none⟩) l.length cap ∧ TextsAt w g l := by
  rcases h.2 with ⟨rfl, _⟩ | ⟨g, cap, cur, rfl, _⟩
  · exact absurd rfl hne
  · refine ⟨g, cap, rfl, fun j x hj => ?_⟩
    have h1 := World.ownsRow.cells h (g := g) rfl j (.string x.text) (by simp [strs, hj])
    have h2 : (⟨g, 0, none⟩ : Addr).add j = ⟨g, j, none⟩ := by unfold Addr.add; split <;> simp_all
    rwa [h2] at h1

theorem spec_l5Parts (t : Ct) (ht : t.WF) (hlen : t.len ≤ 200) (w : World) :
    Calls Try.prog 119 #[.string t.text] w fun e w' => (∃ g cap, e = .returned (.slice (some ⟨g, 0, none⟩) t.parts.length cap) ∧ TextsAt w' g t.parts) ∧ Below w.heap.size w w' := by
  obtain ⟨i0, hi, hz0, hz1, hz2⟩ := info_parts string_info3
  have hw0 : (w.alloc (Obj.cells #[] 9)).ownsRow w.heap.size 9 1 (.slice (some ⟨w.heap.size, 0, none⟩) 0 0) 0 [] := World.ownsRow_made w #[] 0 (Nat.le_refl _) (by decide) rfl
  have hb0 : Below w.heap.size w (w.alloc (Obj.cells #[] 9)) := below_new (Below.refl _ _) _
  have hsz := t.text_size
  have h31 : t.text.size ≤ 2147483648 := by omega
  have hlp := t.len_parts
  go_enter Try.func119, Try.ntmps119
  go_wp2_with fail
  refine (spec_l5Head t ht _).mono ?_
  rintro e w' ⟨rfl, rfl⟩
  go_wp2_with fail
  go_loopw [3, 4, 5] (fun v i _ wr => ∃ us vs : List Ct, t.parts = us ++ vs ∧ i = .int .i64 ((1 + t.ds.length + sumLen us : Nat) : Int) ∧ wr.ownsRow w.heap.size 9 1 v us.length (strs us) ∧ v ≠ .slice none 0 0 ∧ Below w.heap.size w wr) (fun _ i _ _ => t.len - (intOf i).toNat)
  case atStart => exact ⟨[], t.parts, rfl, by simp [sumLen], hw0, by simp, hb0⟩
  case round =>
    obtain ⟨us, vs, hpv, rfl, hown, hne, hb⟩ := hrel
    clear hw0 hb0
    have hul : us.length ≤ 2 := by have := t.parts_le; rw [hpv] at this; simp at this; omega
    cases vs with
    | nil =>
      have hpe : t.parts = us := by simpa using hpv
      have hend : 1 + t.ds.length + sumLen us = t.text.size := by rw [hsz, hlp, hpe]
      have hend' : ((1 + t.ds.length + sumLen us : Nat) : Int) = (t.text.size : Int) := by rw [hend]
      have HP := Lib.hid hpe
      rw [hend']
      clear hend hend' hpv hpe hlp
      go_wp2_with fail
      obtain ⟨g, cap, rfl, hg⟩ := owned_texts hown hne
      go_ret
      rw [HP.out]
      exact ⟨⟨g, cap, rfl, hg⟩, hb⟩
    | cons x vs =>
      have hl := (lies_text t).split hpv
      rw [Nat.zero_add] at hl
      have hx : x.WF := t.parts_wf ht x (by rw [hpv]; simp)
      have hsx := hl.size
      have hxp := x.len_pos
      have hext := Lib.hid (extract_lies hl)
      have hlt : ((1 + t.ds.length + sumLen us : Nat) : Int) < (t.text.size : Int) := by omega
      have hle : 1 + t.ds.length + sumLen us + x.len ≤ t.text.size := hsx
      generalize ha : 1 + t.ds.length + sumLen us = a at *
      have HA := Lib.hid ha
      have HPV := Lib.hid hpv
      clear hlp ha hsx hpv
      go_wp2_with fail
      refine (spec_l5End_yes t.text h31 x hx a _ _ rfl hl).mono ?_
      rintro e w' ⟨rfl, rfl⟩
      have q1 : (a : Int) ≤ ((a + x.len : Nat) : Int) := by omega
      have q2 : ((a + x.len : Nat) : Int) ≤ (t.text.size : Int) := by omega
      go_wp2_with (first
        | (at_builtin; refine wpList_append_own _ rfl _ _ _ rfl w.heap.size 9 i0 (.string ⟨#[]⟩) 1 16 (by kernel_rfl) hi hz0 hz1 hz2 rfl (by decide) _ _ _ rfl (hown.alloc _) ⟨wr.heap.size, 0, none⟩ 1 1 [.string x.text] rfl rfl ?c1 ?c2 ?c3 ?c4 ?c5 ?_)
        | go_in)
      case c1 =>
        intro j y hj
        match j, hj with
        | 0, hj => simp at hj; subst hj; simp [Addr.add, hext.out]
      case c2 => intro y hy; simp at hy; subst hy; rfl
      case c3 => unfold maxLen; omega
      case c4 => omega
      case c5 => have := hb.size; simp; omega
      intro v' w1 hown' hgrow hnil
      have hb' : Below w.heap.size w w1 := (below_new hb _).grown hgrow (by have := hb.size; simp; omega) (fun k hk => (hown.lt k hk).1)
      have e9 : strs us ++ [.string x.text] = strs (us ++ [x]) := by simp [strs]
      rw [e9] at hown'
      go_wp2_with fail
      go_roundw
      case rel => exact ⟨us ++ [x], vs, by rw [HPV.out]; simp, by have := HA.out; rw [sumLen_app]; simp [sumLen]; omega, by rw [List.length_append]; exact hown', by simpa using hnil, hb'⟩
      case measure => simp [intOf]; omega

/-- how many turns are left at most -/
def mes (y b : Int) : Nat := if b = y then 0 else 5 - cnt y
end Go.Proofs.Ytaeibhpkcikaaaa
