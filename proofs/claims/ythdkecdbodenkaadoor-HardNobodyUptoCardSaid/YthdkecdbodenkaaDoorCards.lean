/-
  DERIVED. GIVEN WITH THE SEED: THE CARDS: each row of YthdkecdbodenkaaDoorRows.lean that lists a variable, with what it lists TIED to the program's text (the seventh form; the later family's looks); each row that meets fmt, with fmt's text TOLD by the authors' own Lean function (tested against real Go, not proved from fmt's source: count such statements apart). THE CARD IS WHAT COUNTS. Prove the row's statement (the work); the ties are given (YthdkecdbodenkaaDoorTie.lean); close each card by the builder's one call (the guide's Derived/Test/ToyasCard.lean, 'card_holds'). Laid BY PROGRAM, IN A SANDBOX (cutbox-door.mjs). By AI agents, Wed Nov 11 2026. No macro, syntax, notation, axiom, sorry.
-/
import Derived.Test.YthdkecdbodenkaaDoorRows
import GoSem.ClaimSeven
namespace Go.Proofs.YthdkecdbodenkaaDoor
namespace Rows

/-- THE TIED CARD OF 'gudgeonlaw07.HardNobody'. -/
def hardNobodyCard : Claim7 := { stood := { row := hardNobodyRow, standIns := [], harness := (true, "049af926441591c0b2162abd7cdb547f9831200cd334ba37e7f6081ee4f1bc54"), looks := false }, kinds := [], alts := [], laidByText := true, laidKinds := [.data, .data, .data, .data, .data, .pinned], laidTests := true, laidLooks := .later }
def HardNobodyCardSaid : Prop := Claim7.holds Tryd.pinned (.plain (OpenSpec.ofChange hardNobodySpec)) hardNobodyCard

/-- THE SECOND FORM's CARD OF 'gudgeonlaw07.HardNobody'. -/
def hardNobodyUptoCard : Claim7 := { stood := { row := hardNobodyUptoRow, standIns := [], harness := (true, "049af926441591c0b2162abd7cdb547f9831200cd334ba37e7f6081ee4f1bc54"), looks := false }, kinds := [], alts := [], laidByText := true, laidKinds := [.data, .data, .data, .data, .data, .pinned], laidTests := true, laidLooks := .later }
def HardNobodyUptoCardSaid : Prop := Claim7.holds Tryd.pinned (.plain (OpenSpec.upto hardNobodySpec)) hardNobodyUptoCard
end Rows
end Go.Proofs.YthdkecdbodenkaaDoor
