/- Who can win wins with the best choices, and the choices make this play: the law's walk. -/
import Derived.Test.YtaeibhpkcikaaaaGreatDoorLawZ
import Derived.Test.YtaeibhpkcikaaaaGreatDoorDraw9
namespace Go.Proofs.YtaeibhpkcikaaaaGreatDoor
set_option linter.unusedVariables false
set_option linter.unusedSimpArgs false
open Go.RowKit Go.Shelf
set_option maxRecDepth 100000
set_option maxHeartbeats 10000000

theorem impl_PlayValue (e : Fin) (he : e ≠ .pick) (hl : e ≠ .long) {q : Nat} (hq : q < 4) {p : Int} (hp : C p) (w : World) :
    Calls Tryz.prog 9 #[.int .i64 q, .string (toldF e), .int .i64 p] w fun x w' => x = .returned (.bool (winF e q p)) ∧ w = w' := by
  have H1 := Lib.hid (isC_mk hp)
  cases e with
  | pick => exact absurd rfl he
  | long => exact absurd rfl hl
  | done =>
    rw [show toldF .done = ⟨#[100, 111, 110, 101]⟩ from rfl, show winF .done q p = has p q from rfl]
    go_enter Tryz.func9, Tryz.ntmps9
    go_wp2_with fail
    refine (impl_ConditionValid _ _).mono ?_
    rintro e w' ⟨rfl, rfl⟩
    rw [H1.out]
    go_wp2_with fail
    refine (impl_HasState hp hq _).mono ?_
    rintro e w' ⟨rfl, rfl⟩
    go_wp2_with fail
    go_ret
    exact ⟨rfl, rfl⟩
  | broke b =>
    cases b
    · rw [show toldF (.broke false) = ⟨#[100, 101, 109, 111, 110]⟩ from rfl, show winF (.broke false) q p = true from rfl]
      go_enter Tryz.func9, Tryz.ntmps9
      go_wp2_with fail
      refine (impl_ConditionValid _ _).mono ?_
      rintro e w' ⟨rfl, rfl⟩
      rw [H1.out]
      go_wp2_with fail
      go_ret
      exact ⟨rfl, rfl⟩
    · rw [show toldF (.broke true) = ⟨#[97, 110, 103, 101, 108]⟩ from rfl, show winF (.broke true) q p = false from rfl]
      go_enter Tryz.func9, Tryz.ntmps9
      go_wp2_with fail
      refine (impl_ConditionValid _ _).mono ?_
      rintro e w' ⟨rfl, rfl⟩
      rw [H1.out]
      go_wp2_with fail
      go_ret
      exact ⟨rfl, rfl⟩
theorem best_len (p : Int) (ang : Bool) : ∀ (f s : Nat) (ts : List Ct) (os P : List UInt8), (best p ang f s ts os P).1.length ≤ P.length + f := by
  intro f
  induction f with
  | zero => intro s ts os P; exact Nat.le_refl _
  | succ f ih =>
    intro s ts os P
    simp only [best]
    split
    · refine Nat.le_trans (ih _ _ _ _) ?_
      rw [List.length_append]; simp only [List.length_cons, List.length_nil]; omega
    · show P.length ≤ _; omega
theorem told_ne (e : Fin) (he : e ≠ .pick) : (toldF e).toList.isEmpty = false := by
  rw [ByteArray.toList_eq]
  cases e with
  | pick => exact absurd rfl he
  | long => rfl
  | done => rfl
  | broke b => cases b <;> rfl
theorem in_BestAngel (a : Option Addr) (la ca : Nat) (za : List Int) (w : World) (h0 : IsRow .u8 w a la ca za) (hs : la ≤ 1048576) :
    Calls Tryz.prog 4 #[.slice a la ca] w fun e w' => e = .returned (.bool true) ∧ Below w.heap.size w w' := by
  go_enter Tryz.func4, Tryz.ntmps4
  go_wp2_with fail
  refine (DrawBestPlay_at a la ca za w h0).mono ?_
  rintro e w1 ⟨⟨c, s, p, who, others, hc, hw, ho, rfl⟩, hb⟩
  obtain ⟨R, ⟨HS, HI⟩, hR⟩ := bp_cases c s p who others (by omega) (by omega)
  rcases hR with rfl | ⟨t, n, ang, ht, hlen, hfl, hn, hp, rfl, rfl, rfl, rfl⟩
  · have HS2 := Lib.hid HS
    have HI2 := Lib.hid HI
    clear HS HI
    go_wp2_with fail
    refine (HI2.out _).mono ?_
    rintro e w2 ⟨rfl, hb2⟩
    go_wp2_with fail
    refine (HS2.out _).mono ?_
    rintro e w3 ⟨rfl, hb3⟩
    go_wp2_with fail
    go_ret
    exact ⟨rfl, below_step (below_step hb hb2) hb3⟩
  · have hnl := t.num_le
    obtain ⟨m, us, e, he1, he2, he3, hq, hpl, hwin⟩ := best_law p hp ang (t.num + 1) others.data.toList [] 200 n [t] (PathAt.start ht hlen hfl hn) (by simp [tot])
    have HAW := Lib.hid (fun w => impl_AngelWins t ht hlen hn hp w)
    have hsem : semL [t] p = t.sem p.toNat := rfl
    rw [hsem] at hwin
    obtain ⟨⟨P, q, e'⟩, hB⟩ : ∃ B, best p ang (t.num + 1) n [t] others.data.toList [] = B := ⟨_, rfl⟩
    rw [hB] at he3 hq hpl hwin HS HI
    simp only at he3 hq hpl hwin HS HI
    subst he3
    have HPV := Lib.hid (fun w => impl_PlayValue e' he1 he2 hq hp w)
    have hPl : P.length ≤ 201 := by
      have h1 := best_len p ang (t.num + 1) n [t] others.data.toList []
      rw [hB] at h1
      simp only [List.length_nil] at h1
      omega
    have hPd : ((⟨P.toArray⟩ : ByteArray)).data.toList = P := by simp
    have hPs : (⟨P.toArray⟩ : ByteArray).size = P.length := by show P.toArray.size = _; rw [List.size_toArray]
    have HPC := fun w => impl_PlayContract_yes t ht hlen n hn ⟨P.toArray⟩ (by rw [hPs]; omega) w
    rw [hPd, hpl] at HPC
    simp only at HPC
    rw [show toldS (.fin e') = toldF e' from rfl, ← hPs] at HPC
    have HPC2 := Lib.hid HPC
    have HS2 := Lib.hid HS
    have HI2 := Lib.hid HI
    have hte := told_ne e' he1
    have hsz : (⟨P.toArray⟩ : ByteArray).size ≤ 201 := by omega
    clear HS HI HPC hpl hB hPs hPd
    obtain ⟨T, hT⟩ : ∃ T, toldF e' = T := ⟨_, rfl⟩
    obtain ⟨PP, hPP⟩ : ∃ T : ByteArray, ⟨P.toArray⟩ = T := ⟨_, rfl⟩
    rw [hT] at HPV HPC2 HS2 HI2 hte
    rw [hPP] at HPC2 HS2 HI2 hsz
    obtain ⟨X, hX⟩ : ∃ X, has (t.sem p.toNat) n = X := ⟨_, rfl⟩
    obtain ⟨Y, hY⟩ : ∃ Y, winF e' q p = Y := ⟨_, rfl⟩
    have hwin2 : X = ang → Y = ang := by rw [← hX, ← hY]; exact hwin
    rw [hX] at HAW
    rw [hY] at HPV
    clear hX hY hT hPP hwin
    cases ang
    all_goals
      first
      | rw [show whoN false = ⟨#[100, 101, 109, 111, 110]⟩ from rfl] at HS2 HI2 ⊢
      | rw [show whoN true = ⟨#[97, 110, 103, 101, 108]⟩ from rfl] at HS2 HI2 ⊢
      cases X <;> cases Y
      all_goals try exact absurd (hwin2 rfl) (by decide)
      all_goals
        clear hwin2
        go_wp2_with fail
        refine (HI2.out _).mono ?_
        rintro e w2 ⟨rfl, hb2⟩
        go_wp2_with fail
        refine (HS2.out _).mono ?_
        rintro e w3 ⟨rfl, hb3⟩
        go_wp2_with fail
        refine (HAW.out _).mono ?_
        rintro e w4 ⟨rfl, hb4⟩
        go_wp2_with fail
        refine (HPV.out _).mono ?_
        rintro e w' ⟨rfl, rfl⟩
        go_wp2_with fail
        refine (HPC2.out _).mono ?_
        rintro e w5 ⟨rfl, hb5⟩
        go_wp2_with fail
        go_ret
        exact ⟨rfl, below_step (below_step (below_step (below_step hb hb2) hb3) hb4) hb5⟩
theorem walk_BestAngel (a : Option Addr) (la ca : Nat) (za : List Int) (w : World) (h0 : IsRow .u8 w a la ca za) :
    Calls Tryz.prog 4 #[.slice a la ca] w fun e w' => e = .returned (.bool true) ∧ Below w.heap.size w w' := by
  by_cases hs : la ≤ 1048576
  · exact in_BestAngel a la ca za w h0 hs
  · go_enter Tryz.func4, Tryz.ntmps4
    go_wp2_with fail
    go_ret
    exact ⟨rfl, Below.refl _ _⟩
end Go.Proofs.YtaeibhpkcikaaaaGreatDoor
