/- The contract that leads from a state to another one and leaves all others. No program in sight. -/
import Derived.Test.YtaeibhpkcikaaaaConc
import Derived.Test.YtaeibhpkcikaaaaGL
import Derived.Test.YtaeibhpkcikaaaaIm13
namespace Go.Proofs.Ytaeibhpkcikaaaa
set_option linter.unusedVariables false
set_option linter.unusedSimpArgs false
open Go.RowKit Go.Shelf

/-- where a state is led -/
def asgTo (s t i : Nat) : Nat := if i = s then t else i
theorem asgTo_lt {s t i : Nat} (ht : t < 4) (hi : i < 4) : asgTo s t i < 4 := by unfold asgTo; split <;> assumption
def asgR (s t : Nat) (i : Nat) : Int := sh (asgTo s t i)
def asgD (s t : Nat) : List Int := (List.range 4).map (asgR s t)
def asgC (s t : Nat) : Ct := .n0 65 (asgD s t)
theorem asgD_at (s t : Nat) {i : Nat} (hi : i < 4) : dsF (asgD s t) i = asgR s t i := dsF_map (asgR s t) hi
theorem shC4 {v : Nat} (h : v < 4) : C (sh v) := by
  rw [sh_eq (by omega)]
  obtain rfl | rfl | rfl | rfl : v = 0 ∨ v = 1 ∨ v = 2 ∨ v = 3 := by omega
  all_goals exact ⟨by decide, by decide⟩
theorem asgR_c {s t : Nat} (ht : t < 4) {i : Nat} (hi : i < 4) : C (asgR s t i) := shC4 (asgTo_lt ht hi)
theorem asgD_c {s t : Nat} (ht : t < 4) : ∀ k ∈ asgD s t, C k := fun k hk => by
  simp only [asgD, List.mem_map, List.mem_range] at hk
  obtain ⟨i, hi, rfl⟩ := hk
  exact asgR_c ht hi
theorem asgC_wf {s t : Nat} (ht : t < 4) : (asgC s t).WF := ⟨rfl, asgD_c ht⟩
theorem asgC_len (s t : Nat) : (asgC s t).len = 5 := rfl
theorem asgC_text {s t : Nat} : (asgC s t).text = ⟨#[65]⟩ ++ txt 4 (asgR s t) := rfl
theorem has_asg {s t : Nat} (ht : t < 4) {i j : Nat} (hi : i < 4) : has (dsF (asgD s t) i) j = decide (asgTo s t i = j) := by
  rw [asgD_at s t hi]
  exact has_sh (by have := asgTo_lt (s := s) ht hi; omega) j
theorem asg_dia {s t : Nat} (ht : t < 4) {p : Int} (hp : C p) {i : Nat} (hi : i < 4) : has (dia (dsF (asgD s t)) p) i = has p (asgTo s t i) := by
  rw [Bool.eq_iff_iff, has_dia (dsF_c (asgD_c ht)) hp hi]
  constructor
  · rintro ⟨j, hj, h1, h2⟩
    rw [has_asg ht hi] at h1
    obtain rfl : asgTo s t i = j := by simpa using h1
    exact h2
  · intro h
    exact ⟨_, asgTo_lt ht hi, by rw [has_asg ht hi]; simp, h⟩
theorem asgC_sem (s t : Nat) : (asgC s t).sem = angelT (dsF (asgD s t)) := by
  have h : ∀ d, (Ct.n0 65 d).sem = angelT (dsF d) := fun d => by simp [Ct.sem]
  exact h (asgD s t)
theorem asg_sem (s t : Nat) {p : Int} (hp : C p) : (asgC s t).sem p.toNat = dia (dsF (asgD s t)) p := by
  rw [asgC_sem]; exact angel_at _ hp
/-- does the table go through and? -/
def andAt (t : Nat → Int) (p q : Nat) : Bool := t (bits .and .i64 (p : Int) (q : Int)).toNat == bits .and .i64 (t p) (t q)
theorem andAt_congr {t u : Nat → Int} (e : Eq16 t u) {p q : Nat} (hp : p < 16) (hq : q < 16) : andAt t p q = andAt u p q := by
  unfold andAt; rw [e _ (lt16 (C.and (c_nat hp) (c_nat hq))), e _ hp, e _ hq]
theorem orAt_congr' {t u : Nat → Int} (e : Eq16 t u) {p q : Nat} (hp : p < 16) (hq : q < 16) : orAt t p q = orAt u p q := by
  unfold orAt; rw [e _ (lt16 (C.or (c_nat hp) (c_nat hq))), e _ hp, e _ hq]
theorem asg_nat (s t : Nat) {p : Nat} (hp : p < 16) : (asgC s t).sem p = dia (dsF (asgD s t)) (p : Int) := by
  have := asg_sem s t (c_nat hp); rwa [Int.toNat_natCast] at this
theorem asg_and {s t : Nat} (ht : t < 4) : orAll (andAt (asgC s t).sem) = true := orAll_of fun p hp q hq => by
  have hc := C.and (c_nat hp) (c_nat hq)
  unfold andAt
  rw [asg_sem s t hc, asg_nat s t hp, asg_nat s t hq, beq_iff_eq]
  refine C.ext (dia_ok _ _) (C.and (dia_ok _ _) (dia_ok _ _)) fun i hi => ?_
  rw [asg_dia ht hc hi, has_and (dia_ok _ _).fit16 (dia_ok _ _).fit16, asg_dia ht (c_nat hp) hi, asg_dia ht (c_nat hq) hi, has_and (c_nat hp).fit16 (c_nat hq).fit16]
theorem asg_or {s t : Nat} (ht : t < 4) : orAll (orAt (asgC s t).sem) = true := orAll_of fun p hp q hq => by
  have hc := C.or (c_nat hp) (c_nat hq)
  unfold orAt
  rw [asg_sem s t hc, asg_nat s t hp, asg_nat s t hq, beq_iff_eq]
  refine C.ext (dia_ok _ _) (C.or (dia_ok _ _) (dia_ok _ _)) fun i hi => ?_
  rw [asg_dia ht hc hi, has_or (dia_ok _ _).fit16 (dia_ok _ _).fit16, asg_dia ht (c_nat hp) hi, asg_dia ht (c_nat hq) hi, has_or (c_nat hp).fit16 (c_nat hq).fit16]
theorem asg_zero {s t : Nat} (ht : t < 4) : (asgC s t).sem 0 = 0 := by
  rw [asg_nat s t (by decide : 0 < 16)]; exact dia_zero (dsF_c (asgD_c ht))
theorem asg_all {s t : Nat} (ht : t < 4) : (asgC s t).sem 15 = 15 := by
  rw [asg_nat s t (by decide : 15 < 16)]
  refine C.ext (dia_ok _ _) C.all fun i hi => ?_
  have e := asg_dia (s := s) ht C.all hi
  rw [show ((15 : Nat) : Int) = 15 from rfl, e, has_15 hi, has_15 (asgTo_lt ht hi)]
theorem asg_correct {s t : Nat} (ht : t < 4) {i : Nat} (hi : i < 4) : bits .andNot .i64 (sh i) ((asgC s t).sem (sh (asgTo s t i)).toNat) = 0 := by
  have hc := shC4 (asgTo_lt (s := s) ht hi)
  rw [asg_sem s t hc, sub_dif (shC4 hi) (dia_ok _ _)]
  intro j hj h
  rw [has_sh (by omega)] at h
  obtain rfl : i = j := by simpa using h
  rw [asg_dia ht hc hi, has_sh (by have := asgTo_lt (s := s) ht hi; omega)]
  simp
theorem asg_play {s t : Nat} (ht : t < 4) {i : Nat} (hi : i < 4) : (asgC s t).play i [decB (asgTo s t i)] = ⟨199, asgTo s t i, [], 1, .fin .done⟩ := by
  have hto := asgTo_lt (s := s) ht hi
  have hn : (asgC s t).next i = .pick := rfl
  have hmem : asgTo s t i ∈ (asgC s t).opts i := by
    show _ ∈ (List.range 4).filter fun u => has (dsF (asgD s t) i) u
    rw [List.mem_filter, List.mem_range]
    exact ⟨hto, by rw [has_asg ht hi]; simp⟩
  have ho : ((asgC s t).opts i).isEmpty = false := by
    cases h : (asgC s t).opts i with
    | nil => rw [h] at hmem; cases hmem
    | cons a l => rfl
  have hr := run_pick2 (n := 199) (ts := []) hn ho
  show playA [decB (asgTo s t i)] 200 i [asgC s t] 0 = _
  rw [play_on hr hmem (chc_decB hto)]
  have : playA [] 199 (asgTo s t i) [] 1 = _ := play_end (run_nil 199 (asgTo s t i)) (by intro h; cases h) [] 1
  exact this
end Go.Proofs.Ytaeibhpkcikaaaa
