/-
  DERIVED. GIVEN WITH THE SEED: THE CARDS: each row of YthdkecdbodenkaaGreatDoorRows.lean that lists a variable, with what it lists TIED to the program's text (the seventh form; the later family's looks); each row that meets fmt, with fmt's text TOLD by the authors' own Lean function (tested against real Go, not proved from fmt's source: count such statements apart). THE CARD IS WHAT COUNTS. Prove the row's statement (the work); the ties are given (YthdkecdbodenkaaGreatDoorTie.lean); close each card by the builder's one call (the guide's Derived/Test/ToyasCard.lean, 'card_holds'). Laid BY PROGRAM, IN A SANDBOX (cutbox-door.mjs). By AI agents, Wed Nov 11 2026. No macro, syntax, notation, axiom, sorry.
-/
import Derived.Test.YthdkecdbodenkaaGreatDoorRows
import GoSem.ClaimSeven
namespace Go.Proofs.YthdkecdbodenkaaGreatDoor
namespace Rows

/-- THE TIED CARD OF 'gudgeonlaw07.HardDecodes'. -/
def hardDecodesCard : Claim7 := { stood := { row := hardDecodesRow, standIns := [], harness := (true, "3fdbc5c8f99e845faf967209113aa05102b544901b7d3a42246cc08651be4e3f"), looks := false }, kinds := [], alts := [], laidByText := true, laidKinds := [.data, .data, .data, .data, .data, .pinned], laidTests := true, laidLooks := .later }
def HardDecodesCardSaid : Prop := Claim7.holds Tryz.pinned (.plain (OpenSpec.ofChange hardDecodesSpec)) hardDecodesCard

/-- THE TIED CARD OF 'gudgeonlaw07.HardCodes'. -/
def hardCodesCard : Claim7 := { stood := { row := hardCodesRow, standIns := [], harness := (true, "3fdbc5c8f99e845faf967209113aa05102b544901b7d3a42246cc08651be4e3f"), looks := false }, kinds := [], alts := [], laidByText := true, laidKinds := [.data, .data, .data, .data, .data, .pinned], laidTests := true, laidLooks := .later }
def HardCodesCardSaid : Prop := Claim7.holds Tryz.pinned (.plain (OpenSpec.ofChange hardCodesSpec)) hardCodesCard

/-- THE TIED CARD OF 'gudgeonlaw07.HardActs'. -/
def hardActsCard : Claim7 := { stood := { row := hardActsRow, standIns := [], harness := (true, "3fdbc5c8f99e845faf967209113aa05102b544901b7d3a42246cc08651be4e3f"), looks := false }, kinds := [], alts := [], laidByText := true, laidKinds := [.data, .data, .data, .data, .data, .pinned], laidTests := true, laidLooks := .later }
def HardActsCardSaid : Prop := Claim7.holds Tryz.pinned (.plain (OpenSpec.ofChange hardActsSpec)) hardActsCard

/-- THE SECOND FORM's CARD OF 'gudgeonlaw07.HardDecodes'. -/
def hardDecodesUptoCard : Claim7 := { stood := { row := hardDecodesUptoRow, standIns := [], harness := (true, "3fdbc5c8f99e845faf967209113aa05102b544901b7d3a42246cc08651be4e3f"), looks := false }, kinds := [], alts := [], laidByText := true, laidKinds := [.data, .data, .data, .data, .data, .pinned], laidTests := true, laidLooks := .later }
def HardDecodesUptoCardSaid : Prop := Claim7.holds Tryz.pinned (.plain (OpenSpec.upto hardDecodesSpec)) hardDecodesUptoCard

/-- THE SECOND FORM's CARD OF 'gudgeonlaw07.HardCodes'. -/
def hardCodesUptoCard : Claim7 := { stood := { row := hardCodesUptoRow, standIns := [], harness := (true, "3fdbc5c8f99e845faf967209113aa05102b544901b7d3a42246cc08651be4e3f"), looks := false }, kinds := [], alts := [], laidByText := true, laidKinds := [.data, .data, .data, .data, .data, .pinned], laidTests := true, laidLooks := .later }
def HardCodesUptoCardSaid : Prop := Claim7.holds Tryz.pinned (.plain (OpenSpec.upto hardCodesSpec)) hardCodesUptoCard

/-- THE SECOND FORM's CARD OF 'gudgeonlaw07.HardActs'. -/
def hardActsUptoCard : Claim7 := { stood := { row := hardActsUptoRow, standIns := [], harness := (true, "3fdbc5c8f99e845faf967209113aa05102b544901b7d3a42246cc08651be4e3f"), looks := false }, kinds := [], alts := [], laidByText := true, laidKinds := [.data, .data, .data, .data, .data, .pinned], laidTests := true, laidLooks := .later }
def HardActsUptoCardSaid : Prop := Claim7.holds Tryz.pinned (.plain (OpenSpec.upto hardActsSpec)) hardActsUptoCard
end Rows
end Go.Proofs.YthdkecdbodenkaaGreatDoor
