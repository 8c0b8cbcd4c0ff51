/-
  DERIVED. GIVEN WITH THE SEED: THE CARDS: each row of YtaeibhpkcikaaaaDoorRows.lean that lists a variable, with what it lists TIED to the program's text (the seventh form; the later family's looks); each row that meets fmt, with fmt's text TOLD by the authors' own Lean function (tested against real Go, not proved from fmt's source: count such statements apart). THE CARD IS WHAT COUNTS. Prove the row's statement (the work); the ties are given (YtaeibhpkcikaaaaDoorTie.lean); close each card by the builder's one call (the guide's Derived/Test/ToyasCard.lean, 'card_holds'). Laid BY PROGRAM, IN A SANDBOX (cutbox-door.mjs). By AI agents, Wed Nov 11 2026. No macro, syntax, notation, axiom, sorry.
-/
import Derived.Test.YtaeibhpkcikaaaaDoorRows
import GoSem.ClaimSeven
namespace Go.Proofs.YtaeibhpkcikaaaaDoor
namespace Rows

/-- THE TIED CARD OF 'laws.FnExactFormatRanks'. -/
def fnExactFormatRanksCard : Claim7 := { stood := { row := fnExactFormatRanksRow, standIns := [], harness := (true, "cf9421ce390b8e86db56f950cc6fdcb14fbd1dcc1172ae55c59377e79091e775"), looks := false }, kinds := [], alts := [], laidByText := true, laidKinds := [.data, .data, .data], laidTests := true, laidLooks := .later }
def FnExactFormatRanksCardSaid : Prop := Claim7.holds Tryd.pinned (.plain (OpenSpec.ofChange fnExactFormatRanksSpec)) fnExactFormatRanksCard

/-- THE TIED CARD OF 'laws.FnFormatRanks'. -/
def fnFormatRanksCard : Claim7 := { stood := { row := fnFormatRanksRow, standIns := [], harness := (true, "cf9421ce390b8e86db56f950cc6fdcb14fbd1dcc1172ae55c59377e79091e775"), looks := false }, kinds := [], alts := [], laidByText := true, laidKinds := [.data, .data, .data], laidTests := true, laidLooks := .later }
def FnFormatRanksCardSaid : Prop := Claim7.holds Tryd.pinned (.plain (OpenSpec.ofChange fnFormatRanksSpec)) fnFormatRanksCard

/-- THE SECOND FORM's CARD OF 'laws.FnExactFormatRanks'. -/
def fnExactFormatRanksUptoCard : Claim7 := { stood := { row := fnExactFormatRanksUptoRow, standIns := [], harness := (true, "cf9421ce390b8e86db56f950cc6fdcb14fbd1dcc1172ae55c59377e79091e775"), looks := false }, kinds := [], alts := [], laidByText := true, laidKinds := [.data, .data, .data], laidTests := true, laidLooks := .later }
def FnExactFormatRanksUptoCardSaid : Prop := Claim7.holds Tryd.pinned (.plain (OpenSpec.upto fnExactFormatRanksSpec)) fnExactFormatRanksUptoCard

/-- THE SECOND FORM's CARD OF 'laws.FnFormatRanks'. -/
def fnFormatRanksUptoCard : Claim7 := { stood := { row := fnFormatRanksUptoRow, standIns := [], harness := (true, "cf9421ce390b8e86db56f950cc6fdcb14fbd1dcc1172ae55c59377e79091e775"), looks := false }, kinds := [], alts := [], laidByText := true, laidKinds := [.data, .data, .data], laidTests := true, laidLooks := .later }
def FnFormatRanksUptoCardSaid : Prop := Claim7.holds Tryd.pinned (.plain (OpenSpec.upto fnFormatRanksSpec)) fnFormatRanksUptoCard
end Rows
end Go.Proofs.YtaeibhpkcikaaaaDoor
