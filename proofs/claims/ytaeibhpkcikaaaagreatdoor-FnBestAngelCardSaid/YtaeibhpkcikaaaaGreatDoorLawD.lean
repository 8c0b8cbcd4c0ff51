/- The program's SimulatesContract returns what the reference's returns: contracts and the law's walk. -/
import Derived.Test.YtaeibhpkcikaaaaGreatDoorIm5c
namespace Go.Proofs.YtaeibhpkcikaaaaGreatDoor
set_option linter.unusedVariables false
set_option linter.unusedSimpArgs false
open Go.RowKit Go.Shelf
set_option maxRecDepth 100000
set_option maxHeartbeats 1000000

theorem Tree.drew {w : World} {S : Nat → Prop} (t : Ct) (b : Nat) (h : Tree w S t b) : Tree w.drew S t b := Tree.kept (w := w) (w' := w.drew) (fun _ _ _ => rfl) t b h
theorem ct_of {c : ByteArray} (h : isCt c = true) : ∃ t : Ct, t.WF ∧ c = t.text ∧ t.len ≤ 200 := by
  obtain ⟨t, h1, h2, h3⟩ := isCt_iff.1 h
  exact ⟨t, h1, h2, by rw [← t.text_size, ← h2]; exact h3⟩
theorem text_inj {t u : Ct} (ht : t.WF) (hu : u.WF) (h : t.text = u.text) : t = u := (lies_text t).uniq (by rw [h]; exact lies_text u) ht hu
theorem szCt {t : Ct} (h : t.len ≤ 200) : t.text.size ≤ 4611686018427387904 := by rw [t.text_size]; omega
theorem simF_val {t u : Nat → Int} (r : Nat → Int) (ht : Mon t) (hu : Mon u) : fwdT r (val (txt 16 t)) (val (txt 16 u)) = fwdT r t u :=
  Eq16.ref ((Eq16.refl _).then (eq16_txt ht.ok) ht.ok) ((eq16_txt hu.ok).then (Eq16.refl _) (angelT_ok r))

end Go.Proofs.YtaeibhpkcikaaaaGreatDoor
