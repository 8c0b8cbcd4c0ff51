/- Plays of contracts, as plain functions. No program in sight. -/
import Derived.Test.YtihmdfhgkfgmnaaCt2
namespace Go.Proofs.Ytihmdfhgkfgmnaa
set_option linter.unusedVariables false
set_option linter.unusedSimpArgs false
open Go.RowKit

/-- what a statement does: it goes on with others, somebody breaks the contract (true: the angel), or somebody must choose -/
inductive Nx where
  | go (l : List Ct)
  | stop (angel : Bool)
  | pick
def Ct.next (s : Nat) : Ct → Nx
  | n0 o d => if o = 115 then .go [] else if o = 97 then .stop true else if o = 109 then .stop false else if o = 33 then (if has (dsF d 0) s then .go [] else .stop true) else if o = 63 then (if has (dsF d 0) s then .go [] else .stop false) else .pick
  | n1 o d x => if o = 119 then (if has (dsF d 0) s then .go [x, n1 o d x] else .go []) else .pick
  | n2 o d x y => if o = 59 then .go [x, y] else if o = 105 then (if has (dsF d 0) s then .go [x] else .go [y]) else .pick
/-- is it the angel who chooses? -/
def Ct.who (t : Ct) : Bool := t.op == 124 || t.op == 65 || t.op == 43
def Ct.opts (s : Nat) : Ct → List Nat
  | n0 _ d => (List.range 4).filter fun u => has (dsF d s) u
  | n1 _ _ _ => [0, 1]
  | n2 _ _ _ _ => [0, 1]
/-- the state and what is to be executed first behind a choice -/
def Ct.chose (s k : Nat) : Ct → Nat × List Ct
  | n0 _ _ => (k, [])
  | n1 o d x => (s, if k = 0 then [] else [x, n1 o d x])
  | n2 _ _ x y => (s, [if k = 0 then x else y])
inductive Fin where
  | done
  | long
  | broke (angel : Bool)
  | pick
/-- moves up to a choice or an end, at most so many -/
def run : Nat → Nat → List Ct → Nat × List Ct × Fin
  | n, _, [] => (n, [], .done)
  | 0, _, t :: ts => (0, t :: ts, .long)
  | n + 1, s, t :: ts => match t.next s with
    | .go l => run n s (l ++ ts)
    | .stop a => (n + 1, t :: ts, .broke a)
    | .pick => if (t.opts s).isEmpty then (n + 1, t :: ts, .broke t.who) else (n + 1, t :: ts, .pick)
theorem run_nil (n s : Nat) : run n s [] = (n, [], .done) := by cases n <;> rfl
theorem run_zero (s : Nat) (t : Ct) (ts : List Ct) : run 0 s (t :: ts) = (0, t :: ts, .long) := rfl
theorem run_pick {n s : Nat} {ts : List Ct} {m : Nat} {us : List Ct} (h : run n s ts = (m, us, .pick)) : ∃ t u, us = t :: u ∧ t.next s = .pick ∧ t.opts s ≠ [] ∧ 1 ≤ m ∧ m ≤ n := by
  induction n generalizing ts with
  | zero =>
    cases ts with
    | nil => simp [run_nil] at h
    | cons t ts => simp [run_zero] at h
  | succ n ih =>
    cases ts with
    | nil => simp [run_nil] at h
    | cons t ts =>
      cases hn : t.next s with
      | go l =>
        simp only [run, hn] at h
        obtain ⟨x, u, h1, h2, h3, h4, h5⟩ := ih h
        exact ⟨x, u, h1, h2, h3, h4, by omega⟩
      | stop a => simp [run, hn] at h
      | pick =>
        simp only [run, hn] at h
        by_cases ho : (t.opts s).isEmpty = true
        · rw [if_pos ho] at h; simp at h
        · rw [if_neg ho] at h
          simp only [Prod.mk.injEq] at h
          exact ⟨t, ts, h.2.1.symm, hn, fun e => ho (by rw [e]; rfl), by omega, by omega⟩
/-- how a play stands -/
inductive Stand where
  | fin (e : Fin)
  | asks
  | bad
/-- the choice that a byte names -/
def chc (c : UInt8) : Int := (c.toNat : Int) - 48
def isOpt (l : List Nat) (c : UInt8) : Bool := l.any fun k => chc c == (k : Int)
structure Spot where
  left : Nat
  state : Nat
  todo : List Ct
  used : Nat
  how : Stand
def playA : List UInt8 → Nat → Nat → List Ct → Nat → Spot
  | [], n, s, ts, used => match run n s ts with
    | (m, us, .pick) => ⟨m, s, us, used, .asks⟩
    | (m, us, e) => ⟨m, s, us, used, .fin e⟩
  | c :: cs, n, s, ts, used => match run n s ts with
    | (m, [], e) => ⟨m, s, [], used, .fin e⟩
    | (m, t :: us, .pick) => if isOpt (t.opts s) c then playA cs (m - 1) (t.chose s (chc c).toNat).1 ((t.chose s (chc c).toNat).2 ++ us) (used + 1) else ⟨m, s, t :: us, used, .bad⟩
    | (m, t :: us, e) => ⟨m, s, t :: us, used, .fin e⟩
def Ct.play (t : Ct) (s : Nat) (picks : List UInt8) : Spot := playA picks 200 s [t] 0
end Go.Proofs.Ytihmdfhgkfgmnaa
