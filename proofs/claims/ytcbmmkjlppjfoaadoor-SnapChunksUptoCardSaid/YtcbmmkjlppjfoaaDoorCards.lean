/-
  DERIVED. GIVEN WITH THE SEED: THE CARDS: each row of YtcbmmkjlppjfoaaDoorRows.lean that lists a variable, with what it lists TIED to the program's text (the seventh form; the later family's looks); each row that meets fmt, with fmt's text TOLD by the authors' own Lean function (tested against real Go, not proved from fmt's source: count such statements apart). THE CARD IS WHAT COUNTS. Prove the row's statement (the work); the ties are given (YtcbmmkjlppjfoaaDoorTie.lean); close each card by the builder's one call (the guide's Derived/Test/ToyasCard.lean, 'card_holds'). Laid BY PROGRAM, IN A SANDBOX (cutbox-door.mjs). By AI agents, Wed Nov 11 2026. No macro, syntax, notation, axiom, sorry.
-/
import Derived.Test.YtcbmmkjlppjfoaaDoorRows
import GoSem.ClaimSeven
namespace Go.Proofs.YtcbmmkjlppjfoaaDoor
namespace Rows

/-- THE TIED CARD OF 'gudgeonlaw08.SnapChunks'. -/
def snapChunksCard : Claim7 := { stood := { row := snapChunksRow, standIns := [], harness := (true, "bb020b42de78cbab0b016d73a6f377dc6ad7c387b402152a9ac5a3f38ee1f573"), looks := false }, kinds := [], alts := [], laidByText := true, laidKinds := [.data, .data, .data, .data, .data, .pinned], laidTests := true, laidLooks := .later }
def SnapChunksCardSaid : Prop := Claim7.holds Tryd.pinned (.plain (OpenSpec.ofChange snapChunksSpec)) snapChunksCard

/-- THE SECOND FORM's CARD OF 'gudgeonlaw08.SnapChunks'. -/
def snapChunksUptoCard : Claim7 := { stood := { row := snapChunksUptoRow, standIns := [], harness := (true, "bb020b42de78cbab0b016d73a6f377dc6ad7c387b402152a9ac5a3f38ee1f573"), looks := false }, kinds := [], alts := [], laidByText := true, laidKinds := [.data, .data, .data, .data, .data, .pinned], laidTests := true, laidLooks := .later }
def SnapChunksUptoCardSaid : Prop := Claim7.holds Tryd.pinned (.plain (OpenSpec.upto snapChunksSpec)) snapChunksUptoCard
end Rows
end Go.Proofs.YtcbmmkjlppjfoaaDoor
