/- What a contract needs before a condition, how many statements it has, and who wins it: the program. -/
import Derived.Test.YtaeibhpkcikaaaaGreatDoorLawD
import Derived.Test.YtaeibhpkcikaaaaGreatDoorImC
import Derived.Test.YtaeibhpkcikaaaaGreatDoorGI
namespace Go.Proofs.YtaeibhpkcikaaaaGreatDoor
set_option linter.unusedVariables false
set_option linter.unusedSimpArgs false
open Go.RowKit Go.Shelf
set_option maxRecDepth 100000
set_option maxHeartbeats 4000000

theorem read_treeD {t : Ct} (ht : t.WF) (hlen : t.len ≤ 200) {w : World} {e : Ending} {w1 : World} (hA : RdCt t.text w e w1) : ∃ b, e = .returned (.pointer (some ⟨b, 0, none⟩)) ∧ Tree w1 (fun q => q < w1.heap.size) t b ∧ Below w.heap.size w w1 := by
  obtain ⟨hA, hb⟩ := hA
  rcases hA with ⟨t', b, h1, h2, _, rfl, h5⟩ | ⟨h, _⟩
  · obtain rfl := text_inj ht h1 h2
    exact ⟨b, rfl, h5.weaken (fun k _ hk => hk), hb⟩
  · rw [isCt_text ht hlen] at h; cases h
def anyD : ByteArray := ⟨#[115, 97, 109, 33, 63, 65, 68, 59, 38, 124, 105, 119, 42, 43]⟩
theorem anyD_all : ∀ n : _root_.Fin 256, (shp (UInt8.ofNat n.val)).isSome = true → inOps anyD (UInt8.ofNat n.val) = true := by decide +kernel
theorem anyD_shp (o : UInt8) (h : (shp o).isSome = true) : inOps anyD o = true := by
  have := anyD_all ⟨o.toNat, o.toNat_lt⟩
  simpa [h] using this
theorem knowsD : ∀ t : Ct, t.WF → t.knows (inOps anyD) = true
  | .n0 o d, h => anyD_shp o (by rw [h.1]; rfl)
  | .n1 o d x, h => by simp only [Ct.knows, Bool.and_eq_true]; exact ⟨anyD_shp o (by rw [h.1.1]; rfl), knowsD x h.2⟩
  | .n2 o d x y, h => by simp only [Ct.knows, Bool.and_eq_true]; exact ⟨anyD_shp o (by rw [h.1.1]; rfl), knowsD x h.2.1, knowsD y h.2.2⟩
theorem impl_NeedsBefore (t : Ct) (ht : t.WF) (hlen : t.len ≤ 200) {p : Int} (hp : C p) (w : World) : Calls Tryz.prog 38 #[.string t.text, .int .i64 p] w fun e w' => e = .returned (.int .i64 (t.sem p.toNat)) ∧ Below w.heap.size w w' := by
  have H1 := Lib.hid (isC_mk hp)
  obtain ⟨k, rfl⟩ := Int.eq_ofNat_of_zero_le hp.1
  have hk : k < 16 := by have := hp.2; omega
  have hx := fun W => run_index_cs (P := Tryz.prog) W 95 3 16 t.sem k .i64 hk trans_u Tryz.underlying3 (by kernel_rfl)
  go_enter Tryz.func38, Tryz.ntmps38
  go_wp2_with fail
  refine (impl_read t.text (szCt hlen) _).mono ?_
  intro e w1 hA
  obtain ⟨b, rfl, hT, hb1⟩ := read_treeD ht hlen hA
  clear hA
  go_wp2_with fail
  refine (impl_ConditionValid _ _).mono ?_
  rintro e w' ⟨rfl, rfl⟩
  rw [H1.out]
  go_wp2_with fail
  refine (impl_trans t ht b _ _ hT).mono ?_
  rintro e w2 ⟨rfl, hb2⟩
  go_wp2_with fail
  go_ret
  exact ⟨by simp, below_step hb1 hb2⟩
end Go.Proofs.YtaeibhpkcikaaaaGreatDoor
