/- Plays: who chooses in a contract, and when the angel wins, the program. -/
import Derived.Test.YtaeibhpkcikaaaaLawQ
import Derived.Test.YtaeibhpkcikaaaaGL
namespace Go.Proofs.Ytaeibhpkcikaaaa
set_option linter.unusedVariables false
set_option linter.unusedSimpArgs false
open Go.RowKit Go.Shelf
set_option maxRecDepth 100000
set_option maxHeartbeats 4000000

def angW : ByteArray := ⟨#[65, 124, 43]⟩
def demW : ByteArray := ⟨#[68, 38, 42]⟩
theorem angW_all : ∀ n : _root_.Fin 256, inOps angW (UInt8.ofNat n.val) = !noA (UInt8.ofNat n.val) := by decide +kernel
theorem demW_all : ∀ n : _root_.Fin 256, inOps demW (UInt8.ofNat n.val) = !noD (UInt8.ofNat n.val) := by decide +kernel
theorem cnt_ang (t : Ct) : t.cnt (inOps angW) = 0 ↔ t.knows noA = true := by
  rw [cnt_none]
  have : (fun o => !inOps angW o) = noA := by
    funext o
    have := angW_all ⟨o.toNat, o.toNat_lt⟩
    simp only [UInt8.ofNat_toNat] at this
    rw [this]; simp
  rw [this]
theorem cnt_dem (t : Ct) : t.cnt (inOps demW) = 0 ↔ t.knows noD = true := by
  rw [cnt_none]
  have : (fun o => !inOps demW o) = noD := by
    funext o
    have := demW_all ⟨o.toNat, o.toNat_lt⟩
    simp only [UInt8.ofNat_toNat] at this
    rw [this]; simp
  rw [this]
theorem impl_ChoosesIn (t : Ct) (ht : t.WF) (hlen : t.len ≤ 200) (w : World) : Calls Try.prog 15 #[.string t.text] w fun e w' => e = .returned (.tuple #[.bool (!t.knows noA), .bool (!t.knows noD)]) ∧ Below w.heap.size w w' := by
  have HC1 := Lib.hid (impl_count angW t hlen)
  have HC2 := Lib.hid (impl_count demW t hlen)
  have H1 : Hid (decide (0 < t.cnt (inOps angW)) = !t.knows noA) := by
    show _ = _
    cases hk : t.knows noA
    · have : t.cnt (inOps angW) ≠ 0 := fun h => by rw [(cnt_ang t).1 h] at hk; cases hk
      simpa using Nat.pos_of_ne_zero this
    · have := (cnt_ang t).2 hk
      simp [this]
  have H2 : Hid (decide (0 < t.cnt (inOps demW)) = !t.knows noD) := by
    show _ = _
    cases hk : t.knows noD
    · have : t.cnt (inOps demW) ≠ 0 := fun h => by rw [(cnt_dem t).1 h] at hk; cases hk
      simpa using Nat.pos_of_ne_zero this
    · have := (cnt_dem t).2 hk
      simp [this]
  go_enter Try.func15, Try.ntmps15
  go_wp2_with fail
  refine (impl_read t.text (szCtP hlen) _).mono ?_
  intro e w1 hA
  obtain ⟨b, rfl, hT, hb1⟩ := read_tree ht hlen hA
  clear hA
  go_wp2_with fail
  refine (HC1.out b _ _ hT).mono ?_
  rintro e w' ⟨rfl, rfl⟩
  go_wp2_with fail
  refine (HC2.out b _ _ hT).mono ?_
  rintro e w' ⟨rfl, rfl⟩
  go_wp2_with fail
  go_ret2
  refine ⟨?_, hb1⟩
  rw [← H1.out, ← H2.out]
  simp
end Go.Proofs.Ytaeibhpkcikaaaa
