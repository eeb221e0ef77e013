/-
  No cell of these rows narrows 'for every input' (looked for: loops, veiled, ifaces, maps, wideKeys, modest, calm, conditions, laid).
  DERIVED. THE GIVEN ROWS OF THIS SEAT. 6 by the template 'for every input the law returns true; each argument reads behind the call as it read before'; 0 by the template 'total and deterministic' (their statements: YtdmegcnkfngojaaTotals.lean).
  GIVEN WITH THE SEED: the statements are not yours to turn. If you find one false, say at which input.
  Laid BY PROGRAM, IN A SANDBOX (cutbox-rows.mjs): the forced cells as the released guide's own fill.sh prints them over the translation 4e6e31acf1107282… (all of the seat's roots in one cut). By AI agents, Wed Nov 11 2026. No macro, syntax, notation, axiom, sorry.
-/
import Derived.Test.YtdmegcnkfngojaaChecked
import GoSem.Claim
import GoSem.ClaimJoined
import GoSem.ClaimMapViews
import Derived.JoinedTies
import Derived.KernelRfl
namespace Go.Proofs.Ytdmegcnkfngojaa
/- THE CELL 'sum', in the pinned program and in every row, IS THE sha256 OF THE DUMP (.gsa) THAT YtdmegcnkfngojaaProg.lean LOADS. Nothing in Lean hashes anything: it is a label: what it is worth is what the hold of that sum in a sandbox is worth. -/
noncomputable def Try.pinned : Pinned := { name := "ytdmegcnkfngojaa", sum := "4e6e31acf11072825ebde8dc55ffc2ab9751cee69cdaf1b7d6a53d1ef6576703", checked := Try.checked }
namespace Rows
def none {H : Type} : Left H := { results := [], args := [] }

/-- 'gudgeonlaw11.ChartFinds': WHATEVER THE INPUT: true; the input reads as it did. -/
def chartFindsSpec : ChangeSpec := { name := "chartFinds", fn := fun _ => fun
  | [d1, d2, d3] => { results := [.lit (.bool true)], args := [d1, d2, d3] }
  | _ => none }
def chartFindsRow : OpenClaim := { program := "ytdmegcnkfngojaa", sum := "4e6e31acf11072825ebde8dc55ffc2ab9751cee69cdaf1b7d6a53d1ef6576703", func := "gudgeon/gudgeonlaw11.ChartFinds", spec := "chartFinds", unfollowed := true, recurses := true, apart := false }
def ChartFindsSaid : Prop := chartFindsRow.holds Try.pinned (OpenSpec.ofChange chartFindsSpec)

/-- ITS FALSE NEIGHBOUR: 'it returns false'. Refute it at one input. -/
def chartFindsWrong : ChangeSpec := { name := "chartFinds", fn := fun _ => fun
  | [d1, d2, d3] => { results := [.lit (.bool false)], args := [d1, d2, d3] }
  | _ => none }
def ChartFindsWrongFalsely : Prop := chartFindsRow.holds Try.pinned (OpenSpec.ofChange chartFindsWrong)

/-- 'gudgeonlaw11.ChartTurns': WHATEVER THE INPUT: true; the input reads as it did. -/
def chartTurnsSpec : ChangeSpec := { name := "chartTurns", fn := fun _ => fun
  | [d1, d2, d3] => { results := [.lit (.bool true)], args := [d1, d2, d3] }
  | _ => none }
def chartTurnsRow : OpenClaim := { program := "ytdmegcnkfngojaa", sum := "4e6e31acf11072825ebde8dc55ffc2ab9751cee69cdaf1b7d6a53d1ef6576703", func := "gudgeon/gudgeonlaw11.ChartTurns", spec := "chartTurns", unfollowed := true, recurses := true, apart := false }
def ChartTurnsSaid : Prop := chartTurnsRow.holds Try.pinned (OpenSpec.ofChange chartTurnsSpec)

/-- ITS FALSE NEIGHBOUR: 'it returns false'. Refute it at one input. -/
def chartTurnsWrong : ChangeSpec := { name := "chartTurns", fn := fun _ => fun
  | [d1, d2, d3] => { results := [.lit (.bool false)], args := [d1, d2, d3] }
  | _ => none }
def ChartTurnsWrongFalsely : Prop := chartTurnsRow.holds Try.pinned (OpenSpec.ofChange chartTurnsWrong)

/-- 'gudgeonlaw11.ChartOne': WHATEVER THE INPUT: true; the input reads as it did. -/
def chartOneSpec : ChangeSpec := { name := "chartOne", fn := fun _ => fun
  | [d1, d2, d3] => { results := [.lit (.bool true)], args := [d1, d2, d3] }
  | _ => none }
def chartOneRow : OpenClaim := { program := "ytdmegcnkfngojaa", sum := "4e6e31acf11072825ebde8dc55ffc2ab9751cee69cdaf1b7d6a53d1ef6576703", func := "gudgeon/gudgeonlaw11.ChartOne", spec := "chartOne", unfollowed := true, recurses := true, apart := false }
def ChartOneSaid : Prop := chartOneRow.holds Try.pinned (OpenSpec.ofChange chartOneSpec)

/-- ITS FALSE NEIGHBOUR: 'it returns false'. Refute it at one input. -/
def chartOneWrong : ChangeSpec := { name := "chartOne", fn := fun _ => fun
  | [d1, d2, d3] => { results := [.lit (.bool false)], args := [d1, d2, d3] }
  | _ => none }
def ChartOneWrongFalsely : Prop := chartOneRow.holds Try.pinned (OpenSpec.ofChange chartOneWrong)

/-- 'gudgeonlaw11.ChartDecodes': WHATEVER THE INPUT: true; the input reads as it did. -/
def chartDecodesSpec : ChangeSpec := { name := "chartDecodes", fn := fun _ => fun
  | [d] => { results := [.lit (.bool true)], args := [d] }
  | _ => none }
def chartDecodesRow : OpenClaim := { program := "ytdmegcnkfngojaa", sum := "4e6e31acf11072825ebde8dc55ffc2ab9751cee69cdaf1b7d6a53d1ef6576703", func := "gudgeon/gudgeonlaw11.ChartDecodes", spec := "chartDecodes", unfollowed := true, recurses := true, apart := false }
def ChartDecodesSaid : Prop := chartDecodesRow.holds Try.pinned (OpenSpec.ofChange chartDecodesSpec)

/-- ITS FALSE NEIGHBOUR: 'it returns false'. Refute it at one input. -/
def chartDecodesWrong : ChangeSpec := { name := "chartDecodes", fn := fun _ => fun
  | [d] => { results := [.lit (.bool false)], args := [d] }
  | _ => none }
def ChartDecodesWrongFalsely : Prop := chartDecodesRow.holds Try.pinned (OpenSpec.ofChange chartDecodesWrong)

/-- 'gudgeonlaw11.ChartCodes': WHATEVER THE INPUT: true; the input reads as it did. -/
def chartCodesSpec : ChangeSpec := { name := "chartCodes", fn := fun _ => fun
  | [d] => { results := [.lit (.bool true)], args := [d] }
  | _ => none }
def chartCodesRow : OpenClaim := { program := "ytdmegcnkfngojaa", sum := "4e6e31acf11072825ebde8dc55ffc2ab9751cee69cdaf1b7d6a53d1ef6576703", func := "gudgeon/gudgeonlaw11.ChartCodes", spec := "chartCodes", unfollowed := true, recurses := true, apart := false }
def ChartCodesSaid : Prop := chartCodesRow.holds Try.pinned (OpenSpec.ofChange chartCodesSpec)

/-- ITS FALSE NEIGHBOUR: 'it returns false'. Refute it at one input. -/
def chartCodesWrong : ChangeSpec := { name := "chartCodes", fn := fun _ => fun
  | [d] => { results := [.lit (.bool false)], args := [d] }
  | _ => none }
def ChartCodesWrongFalsely : Prop := chartCodesRow.holds Try.pinned (OpenSpec.ofChange chartCodesWrong)

/-- 'gudgeonlaw11.ChartGroups': WHATEVER THE INPUT: true; the input reads as it did. -/
def chartGroupsSpec : ChangeSpec := { name := "chartGroups", fn := fun _ => fun
  | [d1, d2, d3] => { results := [.lit (.bool true)], args := [d1, d2, d3] }
  | _ => none }
def chartGroupsRow : OpenClaim := { program := "ytdmegcnkfngojaa", sum := "4e6e31acf11072825ebde8dc55ffc2ab9751cee69cdaf1b7d6a53d1ef6576703", func := "gudgeon/gudgeonlaw11.ChartGroups", spec := "chartGroups", unfollowed := true, recurses := true, apart := false }
def ChartGroupsSaid : Prop := chartGroupsRow.holds Try.pinned (OpenSpec.ofChange chartGroupsSpec)

/-- ITS FALSE NEIGHBOUR: 'it returns false'. Refute it at one input. -/
def chartGroupsWrong : ChangeSpec := { name := "chartGroups", fn := fun _ => fun
  | [d1, d2, d3] => { results := [.lit (.bool false)], args := [d1, d2, d3] }
  | _ => none }
def ChartGroupsWrongFalsely : Prop := chartGroupsRow.holds Try.pinned (OpenSpec.ofChange chartGroupsWrong)

/- THE SECOND FORM. 'bulk': how many values and letters a reading holds, each counted each time it is reached (what is shared counts as often as it is met; a slice's spare places count too). A statement '..UptoSaid' is the law's where the arguments, and the package variables that the reading takes, are together of bulk at most 1048576: NARROWER than '..Said'. Prove '..Said' where nothing that the law and all that it calls make is longer than what came in: it says more and counts as full. Else prove '..UptoSaid'. A law counts once. -/
mutual
def uptoBulk {H : Type} : DataW H → Nat
  | .lit (.string bytes) => bytes.length + 1
  | .lit _ => 1
  | .nil => 1
  | .ptr d => uptoBulk d + 1
  | .slice elems spare => uptoBulkAll elems + uptoBulkAll spare + 1
  | .agg parts => uptoBulkAll parts + 1
  | .iface _ d => uptoBulk d + 1
  | .map entries => uptoBulkEntries entries + 1
  | .held _ => 1
def uptoBulkAll {H : Type} : List (DataW H) → Nat
  | [] => 0
  | d :: r => uptoBulk d + uptoBulkAll r
def uptoBulkEntries {H : Type} : List (Lit × DataW H) → Nat
  | [] => 0
  | x :: r => uptoBulkEntry x + uptoBulkEntries r
def uptoBulkEntry {H : Type} : Lit × DataW H → Nat
  | (.string bytes, d) => bytes.length + uptoBulk d + 1
  | (_, d) => uptoBulk d + 1
 end
def uptoSmall : (H : Type) → List (DataW H) → Bool := fun _ ds => decide (uptoBulkAll ds ≤ 1048576)
def OpenSpec.upto (s : _root_.Go.ChangeSpec) : _root_.Go.OpenSpec := { _root_.Go.OpenSpec.ofChange s with cond := some uptoSmall }

/-- 'gudgeonlaw11.ChartFinds', WHERE WHAT IT READS IS OF BULK AT MOST 1048576: true; the input reads as it did. -/
def chartFindsUptoRow : OpenClaim := { program := "ytdmegcnkfngojaa", sum := "4e6e31acf11072825ebde8dc55ffc2ab9751cee69cdaf1b7d6a53d1ef6576703", func := "gudgeon/gudgeonlaw11.ChartFinds", spec := "chartFinds", unfollowed := true, recurses := true, apart := false, narrowed := true }
def ChartFindsUptoSaid : Prop := chartFindsUptoRow.holds Try.pinned (OpenSpec.upto chartFindsSpec)

/-- 'gudgeonlaw11.ChartTurns', WHERE WHAT IT READS IS OF BULK AT MOST 1048576: true; the input reads as it did. -/
def chartTurnsUptoRow : OpenClaim := { program := "ytdmegcnkfngojaa", sum := "4e6e31acf11072825ebde8dc55ffc2ab9751cee69cdaf1b7d6a53d1ef6576703", func := "gudgeon/gudgeonlaw11.ChartTurns", spec := "chartTurns", unfollowed := true, recurses := true, apart := false, narrowed := true }
def ChartTurnsUptoSaid : Prop := chartTurnsUptoRow.holds Try.pinned (OpenSpec.upto chartTurnsSpec)

/-- 'gudgeonlaw11.ChartOne', WHERE WHAT IT READS IS OF BULK AT MOST 1048576: true; the input reads as it did. -/
def chartOneUptoRow : OpenClaim := { program := "ytdmegcnkfngojaa", sum := "4e6e31acf11072825ebde8dc55ffc2ab9751cee69cdaf1b7d6a53d1ef6576703", func := "gudgeon/gudgeonlaw11.ChartOne", spec := "chartOne", unfollowed := true, recurses := true, apart := false, narrowed := true }
def ChartOneUptoSaid : Prop := chartOneUptoRow.holds Try.pinned (OpenSpec.upto chartOneSpec)

/-- 'gudgeonlaw11.ChartDecodes', WHERE WHAT IT READS IS OF BULK AT MOST 1048576: true; the input reads as it did. -/
def chartDecodesUptoRow : OpenClaim := { program := "ytdmegcnkfngojaa", sum := "4e6e31acf11072825ebde8dc55ffc2ab9751cee69cdaf1b7d6a53d1ef6576703", func := "gudgeon/gudgeonlaw11.ChartDecodes", spec := "chartDecodes", unfollowed := true, recurses := true, apart := false, narrowed := true }
def ChartDecodesUptoSaid : Prop := chartDecodesUptoRow.holds Try.pinned (OpenSpec.upto chartDecodesSpec)

/-- 'gudgeonlaw11.ChartCodes', WHERE WHAT IT READS IS OF BULK AT MOST 1048576: true; the input reads as it did. -/
def chartCodesUptoRow : OpenClaim := { program := "ytdmegcnkfngojaa", sum := "4e6e31acf11072825ebde8dc55ffc2ab9751cee69cdaf1b7d6a53d1ef6576703", func := "gudgeon/gudgeonlaw11.ChartCodes", spec := "chartCodes", unfollowed := true, recurses := true, apart := false, narrowed := true }
def ChartCodesUptoSaid : Prop := chartCodesUptoRow.holds Try.pinned (OpenSpec.upto chartCodesSpec)

/-- 'gudgeonlaw11.ChartGroups', WHERE WHAT IT READS IS OF BULK AT MOST 1048576: true; the input reads as it did. -/
def chartGroupsUptoRow : OpenClaim := { program := "ytdmegcnkfngojaa", sum := "4e6e31acf11072825ebde8dc55ffc2ab9751cee69cdaf1b7d6a53d1ef6576703", func := "gudgeon/gudgeonlaw11.ChartGroups", spec := "chartGroups", unfollowed := true, recurses := true, apart := false, narrowed := true }
def ChartGroupsUptoSaid : Prop := chartGroupsUptoRow.holds Try.pinned (OpenSpec.upto chartGroupsSpec)

end Rows
end Go.Proofs.Ytdmegcnkfngojaa
