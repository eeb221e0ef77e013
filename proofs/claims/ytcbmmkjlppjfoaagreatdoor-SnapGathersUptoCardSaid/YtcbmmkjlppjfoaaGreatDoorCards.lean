/-
  DERIVED. GIVEN WITH THE SEED: THE CARDS: each row of YtcbmmkjlppjfoaaGreatDoorRows.lean that lists a variable, with what it lists TIED to the program's text (the seventh form; the later family's looks); each row that meets fmt, with fmt's text TOLD by the authors' own Lean function (tested against real Go, not proved from fmt's source: count such statements apart). THE CARD IS WHAT COUNTS. Prove the row's statement (the work); the ties are given (YtcbmmkjlppjfoaaGreatDoorTie.lean); close each card by the builder's one call (the guide's Derived/Test/ToyasCard.lean, 'card_holds'). Laid BY PROGRAM, IN A SANDBOX (cutbox-door.mjs). By AI agents, Wed Nov 11 2026. No macro, syntax, notation, axiom, sorry.
-/
import Derived.Test.YtcbmmkjlppjfoaaGreatDoorRows
import GoSem.ClaimSeven
namespace Go.Proofs.YtcbmmkjlppjfoaaGreatDoor
namespace Rows

/-- THE TIED CARD OF 'gudgeonlaw08.SnapLoads'. -/
def snapLoadsCard : Claim7 := { stood := { row := snapLoadsRow, standIns := [], harness := (true, "1d6017f5a8bfe462c8cb0c5b97587a36fb7f652cbfebcade7cfd6887f5590813"), looks := false }, kinds := [], alts := [], laidByText := true, laidKinds := [.data, .data, .data, .data, .data, .pinned], laidTests := true, laidLooks := .later }
def SnapLoadsCardSaid : Prop := Claim7.holds Tryz.pinned (.plain (OpenSpec.ofChange snapLoadsSpec)) snapLoadsCard

/-- THE TIED CARD OF 'gudgeonlaw08.SnapActs'. -/
def snapActsCard : Claim7 := { stood := { row := snapActsRow, standIns := [], harness := (true, "1d6017f5a8bfe462c8cb0c5b97587a36fb7f652cbfebcade7cfd6887f5590813"), looks := false }, kinds := [], alts := [], laidByText := true, laidKinds := [.data, .data, .data, .data, .data, .pinned], laidTests := true, laidLooks := .later }
def SnapActsCardSaid : Prop := Claim7.holds Tryz.pinned (.plain (OpenSpec.ofChange snapActsSpec)) snapActsCard

/-- THE TIED CARD OF 'gudgeonlaw08.SnapGathers'. -/
def snapGathersCard : Claim7 := { stood := { row := snapGathersRow, standIns := [], harness := (true, "1d6017f5a8bfe462c8cb0c5b97587a36fb7f652cbfebcade7cfd6887f5590813"), looks := false }, kinds := [], alts := [], laidByText := true, laidKinds := [.data, .data, .data, .data, .data, .pinned], laidTests := true, laidLooks := .later }
def SnapGathersCardSaid : Prop := Claim7.holds Tryz.pinned (.plain (OpenSpec.ofChange snapGathersSpec)) snapGathersCard

/-- THE TIED CARD OF 'gudgeonlaw08.SnapNobody'. -/
def snapNobodyCard : Claim7 := { stood := { row := snapNobodyRow, standIns := [], harness := (true, "1d6017f5a8bfe462c8cb0c5b97587a36fb7f652cbfebcade7cfd6887f5590813"), looks := false }, kinds := [], alts := [], laidByText := true, laidKinds := [.data, .data, .data, .data, .data, .pinned], laidTests := true, laidLooks := .later }
def SnapNobodyCardSaid : Prop := Claim7.holds Tryz.pinned (.plain (OpenSpec.ofChange snapNobodySpec)) snapNobodyCard

/-- THE SECOND FORM's CARD OF 'gudgeonlaw08.SnapLoads'. -/
def snapLoadsUptoCard : Claim7 := { stood := { row := snapLoadsUptoRow, standIns := [], harness := (true, "1d6017f5a8bfe462c8cb0c5b97587a36fb7f652cbfebcade7cfd6887f5590813"), looks := false }, kinds := [], alts := [], laidByText := true, laidKinds := [.data, .data, .data, .data, .data, .pinned], laidTests := true, laidLooks := .later }
def SnapLoadsUptoCardSaid : Prop := Claim7.holds Tryz.pinned (.plain (OpenSpec.upto snapLoadsSpec)) snapLoadsUptoCard

/-- THE SECOND FORM's CARD OF 'gudgeonlaw08.SnapActs'. -/
def snapActsUptoCard : Claim7 := { stood := { row := snapActsUptoRow, standIns := [], harness := (true, "1d6017f5a8bfe462c8cb0c5b97587a36fb7f652cbfebcade7cfd6887f5590813"), looks := false }, kinds := [], alts := [], laidByText := true, laidKinds := [.data, .data, .data, .data, .data, .pinned], laidTests := true, laidLooks := .later }
def SnapActsUptoCardSaid : Prop := Claim7.holds Tryz.pinned (.plain (OpenSpec.upto snapActsSpec)) snapActsUptoCard

/-- THE SECOND FORM's CARD OF 'gudgeonlaw08.SnapGathers'. -/
def snapGathersUptoCard : Claim7 := { stood := { row := snapGathersUptoRow, standIns := [], harness := (true, "1d6017f5a8bfe462c8cb0c5b97587a36fb7f652cbfebcade7cfd6887f5590813"), looks := false }, kinds := [], alts := [], laidByText := true, laidKinds := [.data, .data, .data, .data, .data, .pinned], laidTests := true, laidLooks := .later }
def SnapGathersUptoCardSaid : Prop := Claim7.holds Tryz.pinned (.plain (OpenSpec.upto snapGathersSpec)) snapGathersUptoCard

/-- THE SECOND FORM's CARD OF 'gudgeonlaw08.SnapNobody'. -/
def snapNobodyUptoCard : Claim7 := { stood := { row := snapNobodyUptoRow, standIns := [], harness := (true, "1d6017f5a8bfe462c8cb0c5b97587a36fb7f652cbfebcade7cfd6887f5590813"), looks := false }, kinds := [], alts := [], laidByText := true, laidKinds := [.data, .data, .data, .data, .data, .pinned], laidTests := true, laidLooks := .later }
def SnapNobodyUptoCardSaid : Prop := Claim7.holds Tryz.pinned (.plain (OpenSpec.upto snapNobodySpec)) snapNobodyUptoCard
end Rows
end Go.Proofs.YtcbmmkjlppjfoaaGreatDoor
