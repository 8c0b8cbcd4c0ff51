/- What a contract needs before a condition, how many statements it has, and who wins it: the program. -/
import Derived.Test.YtaeibhpkcikaaaaLawD
import Derived.Test.YtaeibhpkcikaaaaImC
import Derived.Test.YtaeibhpkcikaaaaGI
namespace Go.Proofs.Ytaeibhpkcikaaaa
set_option linter.unusedVariables false
set_option linter.unusedSimpArgs false
open Go.RowKit Go.Shelf
set_option maxRecDepth 100000
set_option maxHeartbeats 4000000

theorem i_Implies {p q : Int} (hp : C p) (hq : C q) (w : World) : Calls Try.prog 27 #[.int .i64 p, .int .i64 q] w fun e w' => e = .returned (.bool (bits .andNot .i64 p q == 0)) ∧ w = w' := by
  have h := impl_Implies p q w
  rwa [isC_mk hp, isC_mk hq, Bool.true_and, Bool.true_and] at h
theorem read_treeD {t : Ct} (ht : t.WF) (hlen : t.len ≤ 200) {w : World} {e : Ending} {w1 : World} (hA : RdCt t.text w e w1) : ∃ b, e = .returned (.pointer (some ⟨b, 0, none⟩)) ∧ Tree w1 (fun q => q < w1.heap.size) t b ∧ Below w.heap.size w w1 := by
  obtain ⟨hA, hb⟩ := hA
  rcases hA with ⟨t', b, h1, h2, _, rfl, h5⟩ | ⟨h, _⟩
  · obtain rfl := text_inj ht h1 h2
    exact ⟨b, rfl, h5.weaken (fun k _ hk => hk), hb⟩
  · rw [isCt_text ht hlen] at h; cases h
def anyD : ByteArray := ⟨#[115, 97, 109, 33, 63, 65, 68, 59, 38, 124, 105, 119, 42, 43]⟩
theorem anyD_all : ∀ n : _root_.Fin 256, (shp (UInt8.ofNat n.val)).isSome = true → inOps anyD (UInt8.ofNat n.val) = true := by decide +kernel
theorem anyD_shp (o : UInt8) (h : (shp o).isSome = true) : inOps anyD o = true := by
  have := anyD_all ⟨o.toNat, o.toNat_lt⟩
  simpa [h] using this
theorem knowsD : ∀ t : Ct, t.WF → t.knows (inOps anyD) = true
  | .n0 o d, h => anyD_shp o (by rw [h.1]; rfl)
  | .n1 o d x, h => by simp only [Ct.knows, Bool.and_eq_true]; exact ⟨anyD_shp o (by rw [h.1.1]; rfl), knowsD x h.2⟩
  | .n2 o d x y, h => by simp only [Ct.knows, Bool.and_eq_true]; exact ⟨anyD_shp o (by rw [h.1.1]; rfl), knowsD x h.2.1, knowsD y h.2.2⟩
theorem impl_SizeOfContract (t : Ct) (ht : t.WF) (hlen : t.len ≤ 200) (w : World) : Calls Try.prog 26 #[.string t.text] w fun e w' => e = .returned (.int .i64 (t.num : Nat)) ∧ Below w.heap.size w w' := by
  have HC := Lib.hid (impl_count anyD t hlen)
  have HN : Hid (t.cnt (inOps anyD) = t.num) := (Ct.cnt_all t).2 (knowsD t ht)
  go_enter Try.func26, Try.ntmps26
  go_wp2_with fail
  refine (impl_read t.text (szCt hlen) _).mono ?_
  intro e w1 hA
  obtain ⟨b, rfl, hT, hb1⟩ := read_treeD ht hlen hA
  clear hA
  go_wp2_with fail
  refine (HC.out b _ _ hT).mono ?_
  rintro e w' ⟨rfl, rfl⟩
  rw [HN.out]
  go_wp2_with fail
  go_ret
  exact ⟨rfl, hb1⟩
theorem impl_NeedsBefore (t : Ct) (ht : t.WF) (hlen : t.len ≤ 200) {p : Int} (hp : C p) (w : World) : Calls Try.prog 29 #[.string t.text, .int .i64 p] w fun e w' => e = .returned (.int .i64 (t.sem p.toNat)) ∧ Below w.heap.size w w' := by
  have H1 := Lib.hid (isC_mk hp)
  obtain ⟨k, rfl⟩ := Int.eq_ofNat_of_zero_le hp.1
  have hk : k < 16 := by have := hp.2; omega
  have hx := fun W => run_index_cs (P := Try.prog) W 93 3 16 t.sem k .i64 hk trans_u Try.underlying3 (by kernel_rfl)
  go_enter Try.func29, Try.ntmps29
  go_wp2_with fail
  refine (impl_read t.text (szCt hlen) _).mono ?_
  intro e w1 hA
  obtain ⟨b, rfl, hT, hb1⟩ := read_treeD ht hlen hA
  clear hA
  go_wp2_with fail
  refine (impl_ConditionValid _ _).mono ?_
  rintro e w' ⟨rfl, rfl⟩
  rw [H1.out]
  go_wp2_with fail
  refine (impl_trans t ht b _ _ hT).mono ?_
  rintro e w2 ⟨rfl, hb2⟩
  go_wp2_with fail
  go_ret
  exact ⟨by simp, below_step hb1 hb2⟩
theorem impl_IsCorrect (t : Ct) (ht : t.WF) (hlen : t.len ≤ 200) {p q : Int} (hp : C p) (hq : C q) (w : World) : Calls Try.prog 19 #[.int .i64 p, .string t.text, .int .i64 q] w fun e w' => e = .returned (.bool (bits .andNot .i64 p (t.sem q.toNat) == 0)) ∧ Below w.heap.size w w' := by
  have hc := (t.mon ht).ok q.toNat
  have HN := Lib.hid (impl_NeedsBefore t ht hlen hq)
  generalize t.sem q.toNat = n at *
  have h0 : 0 ≤ n := hc.1
  go_enter Try.func19, Try.ntmps19
  go_wp2_with fail
  refine (HN.out _).mono ?_
  rintro e w1 ⟨rfl, hb1⟩
  go_wp2_with fail
  refine (i_Implies hp hc _).mono ?_
  rintro e w' ⟨rfl, rfl⟩
  go_wp2_with fail
  go_ret
  exact ⟨rfl, hb1⟩
theorem impl_TransOfContract (t : Ct) (ht : t.WF) (hlen : t.len ≤ 200) (w : World) : Calls Try.prog 61 #[.string t.text] w fun e w' => e = .returned (.tuple #[.string (txt 16 t.sem), .bool true]) ∧ Below w.heap.size w w' := by
  go_enter Try.func61, Try.ntmps61
  go_wp2_with fail
  refine (impl_read t.text (szCt hlen) _).mono ?_
  intro e w1 hA
  obtain ⟨b, rfl, hT, hb1⟩ := read_treeD ht hlen hA
  clear hA
  go_wp2_with fail
  refine (impl_trans t ht b _ _ hT).mono ?_
  rintro e w2 ⟨rfl, hb2⟩
  go_wp2_with fail
  refine (impl_trans_text _ (t.mon ht).ok _).mono ?_
  rintro e w3 ⟨rfl, hb3⟩
  go_wp2_with fail
  go_ret2
  exact ⟨rfl, below_step (below_step hb1 hb2) hb3⟩
end Go.Proofs.Ytaeibhpkcikaaaa
