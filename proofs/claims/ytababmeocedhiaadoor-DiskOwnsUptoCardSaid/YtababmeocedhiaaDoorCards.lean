/-
  DERIVED. GIVEN WITH THE SEED: THE CARDS: each row of YtababmeocedhiaaDoorRows.lean that lists a variable, with what it lists TIED to the program's text (the seventh form; the later family's looks); each row that meets fmt, with fmt's text TOLD by the authors' own Lean function (tested against real Go, not proved from fmt's source: count such statements apart). THE CARD IS WHAT COUNTS. Prove the row's statement (the work); the ties are given (YtababmeocedhiaaDoorTie.lean); close each card by the builder's one call (the guide's Derived/Test/ToyasCard.lean, 'card_holds'). Laid BY PROGRAM, IN A SANDBOX (cutbox-door.mjs). By AI agents, Wed Nov 11 2026. No macro, syntax, notation, axiom, sorry.
-/
import Derived.Test.YtababmeocedhiaaDoorRows
import GoSem.ClaimSeven
namespace Go.Proofs.YtababmeocedhiaaDoor
namespace Rows

/-- THE TIED CARD OF 'gudgeonlaw05.DiskOwns'. -/
def diskOwnsCard : Claim7 := { stood := { row := diskOwnsRow, standIns := [], harness := (true, "256c98d40ba1c3b21d00fab7005b6d98f6751b3528fa36277ae54251a0c4eb31"), looks := false }, kinds := [], alts := [], laidByText := true, laidKinds := [.data, .pinned], laidTests := true, laidLooks := .later }
def DiskOwnsCardSaid : Prop := Claim7.holds Tryd.pinned (.plain (OpenSpec.ofChange diskOwnsSpec)) diskOwnsCard

/-- THE TIED CARD OF 'gudgeonlaw05.DiskSafe'. -/
def diskSafeCard : Claim7 := { stood := { row := diskSafeRow, standIns := [], harness := (true, "256c98d40ba1c3b21d00fab7005b6d98f6751b3528fa36277ae54251a0c4eb31"), looks := false }, kinds := [], alts := [], laidByText := true, laidKinds := [.data, .pinned], laidTests := true, laidLooks := .later }
def DiskSafeCardSaid : Prop := Claim7.holds Tryd.pinned (.plain (OpenSpec.ofChange diskSafeSpec)) diskSafeCard

/-- THE TIED CARD OF 'gudgeonlaw05.DiskNobody'. -/
def diskNobodyCard : Claim7 := { stood := { row := diskNobodyRow, standIns := [], harness := (true, "256c98d40ba1c3b21d00fab7005b6d98f6751b3528fa36277ae54251a0c4eb31"), looks := false }, kinds := [], alts := [], laidByText := true, laidKinds := [.data, .pinned], laidTests := true, laidLooks := .later }
def DiskNobodyCardSaid : Prop := Claim7.holds Tryd.pinned (.plain (OpenSpec.ofChange diskNobodySpec)) diskNobodyCard

/-- THE TIED CARD OF 'gudgeonlaw05.DiskActs'. -/
def diskActsCard : Claim7 := { stood := { row := diskActsRow, standIns := [], harness := (true, "256c98d40ba1c3b21d00fab7005b6d98f6751b3528fa36277ae54251a0c4eb31"), looks := false }, kinds := [], alts := [], laidByText := true, laidKinds := [.data, .pinned], laidTests := true, laidLooks := .later }
def DiskActsCardSaid : Prop := Claim7.holds Tryd.pinned (.plain (OpenSpec.ofChange diskActsSpec)) diskActsCard

/-- THE SECOND FORM's CARD OF 'gudgeonlaw05.DiskOwns'. -/
def diskOwnsUptoCard : Claim7 := { stood := { row := diskOwnsUptoRow, standIns := [], harness := (true, "256c98d40ba1c3b21d00fab7005b6d98f6751b3528fa36277ae54251a0c4eb31"), looks := false }, kinds := [], alts := [], laidByText := true, laidKinds := [.data, .pinned], laidTests := true, laidLooks := .later }
def DiskOwnsUptoCardSaid : Prop := Claim7.holds Tryd.pinned (.plain (OpenSpec.upto diskOwnsSpec)) diskOwnsUptoCard

/-- THE SECOND FORM's CARD OF 'gudgeonlaw05.DiskSafe'. -/
def diskSafeUptoCard : Claim7 := { stood := { row := diskSafeUptoRow, standIns := [], harness := (true, "256c98d40ba1c3b21d00fab7005b6d98f6751b3528fa36277ae54251a0c4eb31"), looks := false }, kinds := [], alts := [], laidByText := true, laidKinds := [.data, .pinned], laidTests := true, laidLooks := .later }
def DiskSafeUptoCardSaid : Prop := Claim7.holds Tryd.pinned (.plain (OpenSpec.upto diskSafeSpec)) diskSafeUptoCard

/-- THE SECOND FORM's CARD OF 'gudgeonlaw05.DiskNobody'. -/
def diskNobodyUptoCard : Claim7 := { stood := { row := diskNobodyUptoRow, standIns := [], harness := (true, "256c98d40ba1c3b21d00fab7005b6d98f6751b3528fa36277ae54251a0c4eb31"), looks := false }, kinds := [], alts := [], laidByText := true, laidKinds := [.data, .pinned], laidTests := true, laidLooks := .later }
def DiskNobodyUptoCardSaid : Prop := Claim7.holds Tryd.pinned (.plain (OpenSpec.upto diskNobodySpec)) diskNobodyUptoCard

/-- THE SECOND FORM's CARD OF 'gudgeonlaw05.DiskActs'. -/
def diskActsUptoCard : Claim7 := { stood := { row := diskActsUptoRow, standIns := [], harness := (true, "256c98d40ba1c3b21d00fab7005b6d98f6751b3528fa36277ae54251a0c4eb31"), looks := false }, kinds := [], alts := [], laidByText := true, laidKinds := [.data, .pinned], laidTests := true, laidLooks := .later }
def DiskActsUptoCardSaid : Prop := Claim7.holds Tryd.pinned (.plain (OpenSpec.upto diskActsSpec)) diskActsUptoCard
end Rows
end Go.Proofs.YtababmeocedhiaaDoor
