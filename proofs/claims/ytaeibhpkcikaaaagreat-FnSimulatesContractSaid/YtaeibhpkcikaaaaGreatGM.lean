/- Plays: the reference's moves. -/
import Derived.Test.YtaeibhpkcikaaaaGreatSp5d
import Derived.Test.YtaeibhpkcikaaaaGreatGF
import Derived.Test.YtaeibhpkcikaaaaGreatGK
/- SpP -/
namespace Go.Proofs.YtaeibhpkcikaaaaGreat
set_option linter.unusedVariables false
set_option linter.unusedSimpArgs false
open Go.RowKit Go.Shelf
set_option maxRecDepth 100000
set_option maxHeartbeats 1000000

/-- the texts of statements to be executed, the next one last -/
structure Todo (w : World) (g : Nat) (ts : List Ct) : Prop where
  lies : TextsAt w g ts.reverse
theorem Todo.grown {w w' : World} {g : Nat} {ts : List Ct} (h : Todo w g ts) (hb : Below w.heap.size w w') : Todo w' g ts := ⟨h.lies.grown hb⟩
theorem Todo.drew {w : World} {g : Nat} {ts : List Ct} (h : Todo w g ts) : Todo w.drew g ts := ⟨fun j x hj => h.lies j x hj⟩
theorem Todo.last {w : World} {g : Nat} {t : Ct} {ts : List Ct} (h : Todo w g (t :: ts)) : w.cell? ⟨g, ts.length, none⟩ = some (.string t.text) := h.lies ts.length t (by simp)
theorem Todo.rest {w : World} {g : Nat} {t : Ct} {ts : List Ct} (h : Todo w g (t :: ts)) : Todo w g ts := ⟨fun j x hj => h.lies j x (by
  rw [List.reverse_cons, List.getElem?_append_left]
  · exact hj
  · exact (List.getElem?_eq_some_iff.1 hj).1)⟩
def whoN (angel : Bool) : ByteArray := if angel then ⟨#[97, 110, 103, 101, 108]⟩ else ⟨#[100, 101, 109, 111, 110]⟩
def findW : ByteArray := ⟨#[65, 124, 43]⟩
theorem findW_all : ∀ n : _root_.Fin 256, decide (firstIdx findW (UInt8.ofNat n.val) ≥ 0) = (UInt8.ofNat n.val == 124 || UInt8.ofNat n.val == 65 || UInt8.ofNat n.val == 43) := by decide +kernel
theorem findW_who (t : Ct) : decide (firstIdx findW t.op ≥ 0) = t.who := by
  have := findW_all ⟨t.op.toNat, t.op.toNat_lt⟩
  simpa [Ct.who] using this
end Go.Proofs.YtaeibhpkcikaaaaGreat

/- SpP2 -/
namespace Go.Proofs.YtaeibhpkcikaaaaGreat
set_option linter.unusedVariables false
set_option linter.unusedSimpArgs false
open Go.RowKit Go.Shelf
set_option maxRecDepth 100000
set_option maxHeartbeats 1000000

def decB (k : Nat) : UInt8 := UInt8.ofNat (48 + k)
theorem conv_byte (n : Int) (b : UInt8) (hb : (b.toNat : Int) = n) (W : World) : (convert 22 9 (.slice (some ⟨W.heap.size, 0, none⟩) 1 1)).run Tryz.prog (W.alloc (Obj.cells #[.int .u8 n] 5)) = .ok (.string ⟨#[b]⟩) (W.alloc (Obj.cells #[.int .u8 n] 5)) :=
  run_convert_bytes_back (P := Tryz.prog) _ 22 9 5 ⟨W.heap.size, 0, none⟩ 1 [b] Tryz.underlying22 Tryz.underlying5 Tryz.underlying9 (fun j hj => by
    obtain rfl : j = 0 := by simp at hj; exact hj
    simp [Addr.add, hb])
/-- the choices at a statement, as digits -/
def optsB (l : List Nat) : ByteArray := ⟨(l.map decB).toArray⟩
theorem optsB_succ (f : Nat → Bool) (k : Nat) : optsB ((List.range (k + 1)).filter f) = if f k then optsB ((List.range k).filter f) ++ ⟨#[decB k]⟩ else optsB ((List.range k).filter f) := by
  rw [List.range_succ, List.filter_append]
  cases h : f k
  · simp [h, List.filter]
  · rw [if_pos rfl]
    apply ByteArray.ext; apply Array.ext'
    simp [optsB, h, List.filter, ByteArray.data_append]
theorem optsB_size (l : List Nat) : (optsB l).size = l.length := by simp [optsB, ByteArray.size]
theorem filt_le (f : Nat → Bool) (k : Nat) : ((List.range k).filter f).length ≤ k := by
  have := List.length_filter_le f (List.range k)
  simpa using this
theorem next_pick {t : Ct} (ht : t.WF) {s : Nat} (h : t.next s = .pick) : (∃ d, t = .n0 65 d ∧ d.length = 4) ∨ (∃ d, t = .n0 68 d ∧ d.length = 4) ∨ (∃ x, t = .n1 42 [] x) ∨ (∃ x, t = .n1 43 [] x) ∨ (∃ x y, t = .n2 38 [] x y) ∨ (∃ x y, t = .n2 124 [] x y) := by
  cases t with
  | n0 o d =>
    rcases shp0 ht.1 with ⟨rfl | rfl | rfl, hn⟩ | ⟨rfl | rfl, hn⟩ | ⟨rfl | rfl, hn⟩
    · simp [Ct.next] at h
    · simp [Ct.next] at h
    · simp [Ct.next] at h
    · change (if has (dsF d 0) s then Nx.go [] else Nx.stop true) = .pick at h; split at h <;> cases h
    · change (if has (dsF d 0) s then Nx.go [] else Nx.stop false) = .pick at h; split at h <;> cases h
    · exact .inl ⟨d, rfl, hn⟩
    · exact .inr (.inl ⟨d, rfl, hn⟩)
  | n1 o d x =>
    rcases shp1 ht.1.1 with ⟨rfl, hn⟩ | ⟨rfl | rfl, hn⟩
    · change (if has (dsF d 0) s then Nx.go [x, .n1 119 d x] else Nx.go []) = .pick at h; split at h <;> cases h
    · obtain rfl := List.eq_nil_of_length_eq_zero hn; exact .inr (.inr (.inl ⟨x, rfl⟩))
    · obtain rfl := List.eq_nil_of_length_eq_zero hn; exact .inr (.inr (.inr (.inl ⟨x, rfl⟩)))
  | n2 o d x y =>
    rcases shp2 ht.1.1 with ⟨rfl | rfl | rfl, hn⟩ | ⟨rfl, hn⟩
    · change Nx.go [x, y] = .pick at h; cases h
    · obtain rfl := List.eq_nil_of_length_eq_zero hn; exact .inr (.inr (.inr (.inr (.inl ⟨x, y, rfl⟩))))
    · obtain rfl := List.eq_nil_of_length_eq_zero hn; exact .inr (.inr (.inr (.inr (.inr ⟨x, y, rfl⟩))))
    · change (if has (dsF d 0) s then Nx.go [x] else Nx.go [y]) = .pick at h; split at h <;> cases h
end Go.Proofs.YtaeibhpkcikaaaaGreat
