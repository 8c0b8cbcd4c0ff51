/-
  DERIVED. GIVEN WITH THE SEED: THE CARDS: each row of YtaeibhpkcikaaaaGreatDoorRows.lean that lists a variable, with what it lists TIED to the program's text (the seventh form; the later family's looks); each row that meets fmt, with fmt's text TOLD by the authors' own Lean function (tested against real Go, not proved from fmt's source: count such statements apart). THE CARD IS WHAT COUNTS. Prove the row's statement (the work); the ties are given (YtaeibhpkcikaaaaGreatDoorTie.lean); close each card by the builder's one call (the guide's Derived/Test/ToyasCard.lean, 'card_holds'). Laid BY PROGRAM, IN A SANDBOX (cutbox-door.mjs). By AI agents, Wed Nov 11 2026. No macro, syntax, notation, axiom, sorry.
-/
import Derived.Test.YtaeibhpkcikaaaaGreatDoorRows
import GoSem.ClaimSeven
namespace Go.Proofs.YtaeibhpkcikaaaaGreatDoor
namespace Rows

/-- THE TIED CARD OF 'laws.FnExactBestPlay'. -/
def fnExactBestPlayCard : Claim7 := { stood := { row := fnExactBestPlayRow, standIns := [], harness := (true, "900a763322012c5af15e254420107bd05964b4ca5c9dc271feba94828e4aa1ec"), looks := false }, kinds := [], alts := [], laidByText := true, laidKinds := [.data, .pinned], laidTests := true, laidLooks := .later }
def FnExactBestPlayCardSaid : Prop := Claim7.holds Tryz.pinned (.plain (OpenSpec.ofChange fnExactBestPlaySpec)) fnExactBestPlayCard

/-- THE TIED CARD OF 'laws.FnBestAngel'. -/
def fnBestAngelCard : Claim7 := { stood := { row := fnBestAngelRow, standIns := [], harness := (true, "900a763322012c5af15e254420107bd05964b4ca5c9dc271feba94828e4aa1ec"), looks := false }, kinds := [], alts := [], laidByText := true, laidKinds := [.data, .pinned], laidTests := true, laidLooks := .later }
def FnBestAngelCardSaid : Prop := Claim7.holds Tryz.pinned (.plain (OpenSpec.ofChange fnBestAngelSpec)) fnBestAngelCard

/-- THE SECOND FORM's CARD OF 'laws.FnExactBestPlay'. -/
def fnExactBestPlayUptoCard : Claim7 := { stood := { row := fnExactBestPlayUptoRow, standIns := [], harness := (true, "900a763322012c5af15e254420107bd05964b4ca5c9dc271feba94828e4aa1ec"), looks := false }, kinds := [], alts := [], laidByText := true, laidKinds := [.data, .pinned], laidTests := true, laidLooks := .later }
def FnExactBestPlayUptoCardSaid : Prop := Claim7.holds Tryz.pinned (.plain (OpenSpec.upto fnExactBestPlaySpec)) fnExactBestPlayUptoCard

/-- THE SECOND FORM's CARD OF 'laws.FnBestAngel'. -/
def fnBestAngelUptoCard : Claim7 := { stood := { row := fnBestAngelUptoRow, standIns := [], harness := (true, "900a763322012c5af15e254420107bd05964b4ca5c9dc271feba94828e4aa1ec"), looks := false }, kinds := [], alts := [], laidByText := true, laidKinds := [.data, .pinned], laidTests := true, laidLooks := .later }
def FnBestAngelUptoCardSaid : Prop := Claim7.holds Tryz.pinned (.plain (OpenSpec.upto fnBestAngelSpec)) fnBestAngelUptoCard
end Rows
end Go.Proofs.YtaeibhpkcikaaaaGreatDoor
