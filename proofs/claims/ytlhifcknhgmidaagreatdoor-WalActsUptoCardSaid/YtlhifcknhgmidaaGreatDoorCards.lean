/-
  DERIVED. GIVEN WITH THE SEED: THE CARDS: each row of YtlhifcknhgmidaaGreatDoorRows.lean that lists a variable, with what it lists TIED to the program's text (the seventh form; the later family's looks); each row that meets fmt, with fmt's text TOLD by the authors' own Lean function (tested against real Go, not proved from fmt's source: count such statements apart). THE CARD IS WHAT COUNTS. Prove the row's statement (the work); the ties are given (YtlhifcknhgmidaaGreatDoorTie.lean); close each card by the builder's one call (the guide's Derived/Test/ToyasCard.lean, 'card_holds'). Laid BY PROGRAM, IN A SANDBOX (cutbox-door.mjs). By AI agents, Wed Nov 11 2026. No macro, syntax, notation, axiom, sorry.
-/
import Derived.Test.YtlhifcknhgmidaaGreatDoorRows
import GoSem.ClaimSeven
namespace Go.Proofs.YtlhifcknhgmidaaGreatDoor
namespace Rows

/-- THE TIED CARD OF 'gudgeonlaw06.WalSafe'. -/
def walSafeCard : Claim7 := { stood := { row := walSafeRow, standIns := [], harness := (true, "6a54a5ff7080987885d0880adcfd6d046c9e4e9cf6507545660bcd7f6526737f"), looks := true }, kinds := [], alts := [], laidByText := true, laidKinds := [.data, .data, .data, .data, .data, .sentinel, .sentinel, .pinned], laidTests := true, laidLooks := .later }
def WalSafeCardSaid : Prop := Claim7.holds Tryz.pinned (.plain (OpenSpec.ofChange walSafeSpec)) walSafeCard

/-- THE TIED CARD OF 'gudgeonlaw06.WalActs'. -/
def walActsCard : Claim7 := { stood := { row := walActsRow, standIns := [], harness := (true, "6a54a5ff7080987885d0880adcfd6d046c9e4e9cf6507545660bcd7f6526737f"), looks := true }, kinds := [], alts := [], laidByText := true, laidKinds := [.data, .data, .data, .data, .data, .sentinel, .sentinel, .pinned], laidTests := true, laidLooks := .later }
def WalActsCardSaid : Prop := Claim7.holds Tryz.pinned (.plain (OpenSpec.ofChange walActsSpec)) walActsCard

/-- THE TIED CARD OF 'gudgeonlaw06.WalNobody'. -/
def walNobodyCard : Claim7 := { stood := { row := walNobodyRow, standIns := [], harness := (true, "6a54a5ff7080987885d0880adcfd6d046c9e4e9cf6507545660bcd7f6526737f"), looks := true }, kinds := [], alts := [], laidByText := true, laidKinds := [.data, .data, .data, .data, .data, .sentinel, .sentinel, .pinned], laidTests := true, laidLooks := .later }
def WalNobodyCardSaid : Prop := Claim7.holds Tryz.pinned (.plain (OpenSpec.ofChange walNobodySpec)) walNobodyCard

/-- THE SECOND FORM's CARD OF 'gudgeonlaw06.WalSafe'. -/
def walSafeUptoCard : Claim7 := { stood := { row := walSafeUptoRow, standIns := [], harness := (true, "6a54a5ff7080987885d0880adcfd6d046c9e4e9cf6507545660bcd7f6526737f"), looks := true }, kinds := [], alts := [], laidByText := true, laidKinds := [.data, .data, .data, .data, .data, .sentinel, .sentinel, .pinned], laidTests := true, laidLooks := .later }
def WalSafeUptoCardSaid : Prop := Claim7.holds Tryz.pinned (.plain (OpenSpec.upto walSafeSpec)) walSafeUptoCard

/-- THE SECOND FORM's CARD OF 'gudgeonlaw06.WalActs'. -/
def walActsUptoCard : Claim7 := { stood := { row := walActsUptoRow, standIns := [], harness := (true, "6a54a5ff7080987885d0880adcfd6d046c9e4e9cf6507545660bcd7f6526737f"), looks := true }, kinds := [], alts := [], laidByText := true, laidKinds := [.data, .data, .data, .data, .data, .sentinel, .sentinel, .pinned], laidTests := true, laidLooks := .later }
def WalActsUptoCardSaid : Prop := Claim7.holds Tryz.pinned (.plain (OpenSpec.upto walActsSpec)) walActsUptoCard

/-- THE SECOND FORM's CARD OF 'gudgeonlaw06.WalNobody'. -/
def walNobodyUptoCard : Claim7 := { stood := { row := walNobodyUptoRow, standIns := [], harness := (true, "6a54a5ff7080987885d0880adcfd6d046c9e4e9cf6507545660bcd7f6526737f"), looks := true }, kinds := [], alts := [], laidByText := true, laidKinds := [.data, .data, .data, .data, .data, .sentinel, .sentinel, .pinned], laidTests := true, laidLooks := .later }
def WalNobodyUptoCardSaid : Prop := Claim7.holds Tryz.pinned (.plain (OpenSpec.upto walNobodySpec)) walNobodyUptoCard
end Rows
end Go.Proofs.YtlhifcknhgmidaaGreatDoor
