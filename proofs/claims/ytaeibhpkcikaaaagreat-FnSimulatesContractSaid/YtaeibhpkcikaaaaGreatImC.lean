/- Contracts: the program's counting of statements and its contracts of concrete states. -/
import Derived.Test.YtaeibhpkcikaaaaGreatIm5c
import Derived.Test.YtaeibhpkcikaaaaGreatGF
import Derived.Test.YtaeibhpkcikaaaaGreatGI
import Derived.Test.YtaeibhpkcikaaaaGreatGK
namespace Go.Proofs.YtaeibhpkcikaaaaGreat
set_option linter.unusedVariables false
set_option linter.unusedSimpArgs false
open Go.RowKit Go.Shelf
set_option maxRecDepth 100000
set_option maxHeartbeats 1000000

/-- a statement in memory and its parts -/
theorem Tree.opened {w : World} {S : Nat → Prop} (t : Ct) (b : Nat) (h : Tree w S t b) : ∃ pv, S b ∧ Node w b t.op (lastD t.ds) (relD t.ds) pv t.text ∧
    ((t.parts = [] ∧ pv = .slice none 0 0) ∨ ∃ g cap, S g ∧ pv = .slice (some ⟨g, 0, none⟩) t.parts.length cap ∧ ∀ k x, t.parts[k]? = some x → ∃ c, w.cell? ⟨g, k, none⟩ = some (ptr c) ∧ Tree w S x c) := by
  cases t with
  | n0 o d =>
    obtain ⟨h0, h⟩ := h
    exact ⟨_, h0, h, .inl ⟨rfl, rfl⟩⟩
  | n1 o d x =>
    obtain ⟨g, cap, c, h0, h1, h2, h3⟩ := h
    refine ⟨_, h0.1, h1, .inr ⟨g, cap, h0.2, rfl, fun k y hk => ?_⟩⟩
    match k, hk with
    | 0, hk => simp [Ct.parts] at hk; subst hk; exact ⟨c, h2, h3⟩
    | k + 1, hk => simp [Ct.parts] at hk
  | n2 o d x y =>
    obtain ⟨g, cap, c, e, h0, h1, h2, h3, h4, h5⟩ := h
    refine ⟨_, h0.1, h1, .inr ⟨g, cap, h0.2, rfl, fun k z hk => ?_⟩⟩
    match k, hk with
    | 0, hk => simp [Ct.parts] at hk; subst hk; exact ⟨c, h2, h4⟩
    | 1, hk => simp [Ct.parts] at hk; subst hk; exact ⟨e, h3, h5⟩
    | k + 2, hk => simp [Ct.parts] at hk

/-- the statements whose letters lie in a text -/
def inOps (ops : ByteArray) (o : UInt8) : Bool := decide (0 ≤ firstIdx ops o)
theorem head_text (t : Ct) : t.text.extract 0 (1 + t.ds.length) = ⟨t.headB.toArray⟩ := by
  apply ByteArray.ext; apply Array.ext'
  simp only [ByteArray.data_extract, Array.toList_extract, List.extract_eq_take_drop, Ct.text]
  rw [Ct.bytes_parts]
  simp only [List.drop_zero, Nat.sub_zero]
  exact List.take_left' (by simp [Ct.headB]; omega)
end Go.Proofs.YtaeibhpkcikaaaaGreat
