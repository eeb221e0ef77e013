/-
  No cell of these rows narrows 'for every input' (looked for: loops, veiled, ifaces, maps, wideKeys, modest, calm, conditions, laid).
  DERIVED. THE GIVEN ROWS OF THIS SEAT. 4 by the template 'for every input the law returns true; each argument reads behind the call as it read before'; 0 by the template 'total and deterministic' (their statements: YtpnpbhjdjddaiaaTotals.lean).
  GIVEN WITH THE SEED: the statements are not yours to turn. If you find one false, say at which input.
  Laid BY PROGRAM, IN A SANDBOX (cutbox-rows.mjs): the forced cells as the released guide's own fill.sh prints them over the translation faa6165f77549892… (all of the seat's roots in one cut). By AI agents, Wed Nov 11 2026. No macro, syntax, notation, axiom, sorry.
-/
import Derived.Test.YtpnpbhjdjddaiaaChecked
import GoSem.Claim
import GoSem.ClaimJoined
import GoSem.ClaimMapViews
import Derived.JoinedTies
import Derived.KernelRfl
namespace Go.Proofs.Ytpnpbhjdjddaiaa
/- THE CELL 'sum', in the pinned program and in every row, IS THE sha256 OF THE DUMP (.gsa) THAT YtpnpbhjdjddaiaaProg.lean LOADS. Nothing in Lean hashes anything: it is a label: what it is worth is what the hold of that sum in a sandbox is worth. -/
noncomputable def Try.pinned : Pinned := { name := "ytpnpbhjdjddaiaa", sum := "faa6165f775498923093b5d10abe01bf4f411fcc7f0295560959e3b22510d8e0", checked := Try.checked }
namespace Rows
def none {H : Type} : Left H := { results := [], args := [] }

/-- 'gudgeonlaw20.TxnBegins': WHATEVER THE INPUT: true; the input reads as it did. -/
def txnBeginsSpec : ChangeSpec := { name := "txnBegins", fn := fun _ => fun
  | [d1, d2, d3] => { results := [.lit (.bool true)], args := [d1, d2, d3] }
  | _ => none }
def txnBeginsRow : OpenClaim := { program := "ytpnpbhjdjddaiaa", sum := "faa6165f775498923093b5d10abe01bf4f411fcc7f0295560959e3b22510d8e0", func := "gudgeon/gudgeonlaw20.TxnBegins", spec := "txnBegins", inPlace := ["slices.overlaps[int]"], unfollowed := true, recurses := true, apart := false }
def TxnBeginsSaid : Prop := txnBeginsRow.holds Try.pinned (OpenSpec.ofChange txnBeginsSpec)

/-- ITS FALSE NEIGHBOUR: 'it returns false'. Refute it at one input. -/
def txnBeginsWrong : ChangeSpec := { name := "txnBegins", fn := fun _ => fun
  | [d1, d2, d3] => { results := [.lit (.bool false)], args := [d1, d2, d3] }
  | _ => none }
def TxnBeginsWrongFalsely : Prop := txnBeginsRow.holds Try.pinned (OpenSpec.ofChange txnBeginsWrong)

/-- 'gudgeonlaw20.TxnTurns': WHATEVER THE INPUT: true; the input reads as it did. -/
def txnTurnsSpec : ChangeSpec := { name := "txnTurns", fn := fun _ => fun
  | [d1, d2] => { results := [.lit (.bool true)], args := [d1, d2] }
  | _ => none }
def txnTurnsRow : OpenClaim := { program := "ytpnpbhjdjddaiaa", sum := "faa6165f775498923093b5d10abe01bf4f411fcc7f0295560959e3b22510d8e0", func := "gudgeon/gudgeonlaw20.TxnTurns", spec := "txnTurns", inPlace := ["slices.overlaps[int]"], unfollowed := true, recurses := true, apart := false }
def TxnTurnsSaid : Prop := txnTurnsRow.holds Try.pinned (OpenSpec.ofChange txnTurnsSpec)

/-- ITS FALSE NEIGHBOUR: 'it returns false'. Refute it at one input. -/
def txnTurnsWrong : ChangeSpec := { name := "txnTurns", fn := fun _ => fun
  | [d1, d2] => { results := [.lit (.bool false)], args := [d1, d2] }
  | _ => none }
def TxnTurnsWrongFalsely : Prop := txnTurnsRow.holds Try.pinned (OpenSpec.ofChange txnTurnsWrong)

/-- 'gudgeonlaw20.TxnDecides': WHATEVER THE INPUT: true; the input reads as it did. -/
def txnDecidesSpec : ChangeSpec := { name := "txnDecides", fn := fun _ => fun
  | [d1, d2] => { results := [.lit (.bool true)], args := [d1, d2] }
  | _ => none }
def txnDecidesRow : OpenClaim := { program := "ytpnpbhjdjddaiaa", sum := "faa6165f775498923093b5d10abe01bf4f411fcc7f0295560959e3b22510d8e0", func := "gudgeon/gudgeonlaw20.TxnDecides", spec := "txnDecides", inPlace := ["slices.overlaps[int]"], unfollowed := true, recurses := true, apart := false }
def TxnDecidesSaid : Prop := txnDecidesRow.holds Try.pinned (OpenSpec.ofChange txnDecidesSpec)

/-- ITS FALSE NEIGHBOUR: 'it returns false'. Refute it at one input. -/
def txnDecidesWrong : ChangeSpec := { name := "txnDecides", fn := fun _ => fun
  | [d1, d2] => { results := [.lit (.bool false)], args := [d1, d2] }
  | _ => none }
def TxnDecidesWrongFalsely : Prop := txnDecidesRow.holds Try.pinned (OpenSpec.ofChange txnDecidesWrong)

/-- 'gudgeonlaw20.TxnEnds': WHATEVER THE INPUT: true; the input reads as it did. -/
def txnEndsSpec : ChangeSpec := { name := "txnEnds", fn := fun _ => fun
  | [d1, d2, d3] => { results := [.lit (.bool true)], args := [d1, d2, d3] }
  | _ => none }
def txnEndsRow : OpenClaim := { program := "ytpnpbhjdjddaiaa", sum := "faa6165f775498923093b5d10abe01bf4f411fcc7f0295560959e3b22510d8e0", func := "gudgeon/gudgeonlaw20.TxnEnds", spec := "txnEnds", inPlace := ["slices.overlaps[int]"], unfollowed := true, recurses := true, apart := false }
def TxnEndsSaid : Prop := txnEndsRow.holds Try.pinned (OpenSpec.ofChange txnEndsSpec)

/-- ITS FALSE NEIGHBOUR: 'it returns false'. Refute it at one input. -/
def txnEndsWrong : ChangeSpec := { name := "txnEnds", fn := fun _ => fun
  | [d1, d2, d3] => { results := [.lit (.bool false)], args := [d1, d2, d3] }
  | _ => none }
def TxnEndsWrongFalsely : Prop := txnEndsRow.holds Try.pinned (OpenSpec.ofChange txnEndsWrong)

/- THE SECOND FORM. 'bulk': how many values and letters a reading holds, each counted each time it is reached (what is shared counts as often as it is met; a slice's spare places count too). A statement '..UptoSaid' is the law's where the arguments, and the package variables that the reading takes, are together of bulk at most 1048576: NARROWER than '..Said'. Prove '..Said' where nothing that the law and all that it calls make is longer than what came in: it says more and counts as full. Else prove '..UptoSaid'. A law counts once. -/
mutual
def uptoBulk {H : Type} : DataW H → Nat
  | .lit (.string bytes) => bytes.length + 1
  | .lit _ => 1
  | .nil => 1
  | .ptr d => uptoBulk d + 1
  | .slice elems spare => uptoBulkAll elems + uptoBulkAll spare + 1
  | .agg parts => uptoBulkAll parts + 1
  | .iface _ d => uptoBulk d + 1
  | .map entries => uptoBulkEntries entries + 1
  | .held _ => 1
def uptoBulkAll {H : Type} : List (DataW H) → Nat
  | [] => 0
  | d :: r => uptoBulk d + uptoBulkAll r
def uptoBulkEntries {H : Type} : List (Lit × DataW H) → Nat
  | [] => 0
  | x :: r => uptoBulkEntry x + uptoBulkEntries r
def uptoBulkEntry {H : Type} : Lit × DataW H → Nat
  | (.string bytes, d) => bytes.length + uptoBulk d + 1
  | (_, d) => uptoBulk d + 1
 end
def uptoSmall : (H : Type) → List (DataW H) → Bool := fun _ ds => decide (uptoBulkAll ds ≤ 1048576)
def OpenSpec.upto (s : _root_.Go.ChangeSpec) : _root_.Go.OpenSpec := { _root_.Go.OpenSpec.ofChange s with cond := some uptoSmall }

/-- 'gudgeonlaw20.TxnBegins', WHERE WHAT IT READS IS OF BULK AT MOST 1048576: true; the input reads as it did. -/
def txnBeginsUptoRow : OpenClaim := { program := "ytpnpbhjdjddaiaa", sum := "faa6165f775498923093b5d10abe01bf4f411fcc7f0295560959e3b22510d8e0", func := "gudgeon/gudgeonlaw20.TxnBegins", spec := "txnBegins", inPlace := ["slices.overlaps[int]"], unfollowed := true, recurses := true, apart := false, narrowed := true }
def TxnBeginsUptoSaid : Prop := txnBeginsUptoRow.holds Try.pinned (OpenSpec.upto txnBeginsSpec)

/-- 'gudgeonlaw20.TxnTurns', WHERE WHAT IT READS IS OF BULK AT MOST 1048576: true; the input reads as it did. -/
def txnTurnsUptoRow : OpenClaim := { program := "ytpnpbhjdjddaiaa", sum := "faa6165f775498923093b5d10abe01bf4f411fcc7f0295560959e3b22510d8e0", func := "gudgeon/gudgeonlaw20.TxnTurns", spec := "txnTurns", inPlace := ["slices.overlaps[int]"], unfollowed := true, recurses := true, apart := false, narrowed := true }
def TxnTurnsUptoSaid : Prop := txnTurnsUptoRow.holds Try.pinned (OpenSpec.upto txnTurnsSpec)

/-- 'gudgeonlaw20.TxnDecides', WHERE WHAT IT READS IS OF BULK AT MOST 1048576: true; the input reads as it did. -/
def txnDecidesUptoRow : OpenClaim := { program := "ytpnpbhjdjddaiaa", sum := "faa6165f775498923093b5d10abe01bf4f411fcc7f0295560959e3b22510d8e0", func := "gudgeon/gudgeonlaw20.TxnDecides", spec := "txnDecides", inPlace := ["slices.overlaps[int]"], unfollowed := true, recurses := true, apart := false, narrowed := true }
def TxnDecidesUptoSaid : Prop := txnDecidesUptoRow.holds Try.pinned (OpenSpec.upto txnDecidesSpec)

/-- 'gudgeonlaw20.TxnEnds', WHERE WHAT IT READS IS OF BULK AT MOST 1048576: true; the input reads as it did. -/
def txnEndsUptoRow : OpenClaim := { program := "ytpnpbhjdjddaiaa", sum := "faa6165f775498923093b5d10abe01bf4f411fcc7f0295560959e3b22510d8e0", func := "gudgeon/gudgeonlaw20.TxnEnds", spec := "txnEnds", inPlace := ["slices.overlaps[int]"], unfollowed := true, recurses := true, apart := false, narrowed := true }
def TxnEndsUptoSaid : Prop := txnEndsUptoRow.holds Try.pinned (OpenSpec.upto txnEndsSpec)

end Rows
end Go.Proofs.Ytpnpbhjdjddaiaa
