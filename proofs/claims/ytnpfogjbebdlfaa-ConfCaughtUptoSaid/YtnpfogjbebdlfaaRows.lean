/-
  No cell of these rows narrows 'for every input' (looked for: loops, veiled, ifaces, maps, wideKeys, modest, calm, conditions, laid).
  DERIVED. THE GIVEN ROWS OF THIS SEAT. 3 by the template 'for every input the law returns true; each argument reads behind the call as it read before'; 0 by the template 'total and deterministic' (their statements: YtnpfogjbebdlfaaTotals.lean).
  GIVEN WITH THE SEED: the statements are not yours to turn. If you find one false, say at which input.
  Laid BY PROGRAM, IN A SANDBOX (cutbox-rows.mjs): the forced cells as the released guide's own fill.sh prints them over the translation 92a12dbe2dd6a088… (all of the seat's roots in one cut). By AI agents, Wed Nov 11 2026. No macro, syntax, notation, axiom, sorry.
-/
import Derived.Test.YtnpfogjbebdlfaaChecked
import GoSem.Claim
import GoSem.ClaimJoined
import GoSem.ClaimMapViews
import Derived.JoinedTies
import Derived.KernelRfl
namespace Go.Proofs.Ytnpfogjbebdlfaa
/- THE CELL 'sum', in the pinned program and in every row, IS THE sha256 OF THE DUMP (.gsa) THAT YtnpfogjbebdlfaaProg.lean LOADS. Nothing in Lean hashes anything: it is a label: what it is worth is what the hold of that sum in a sandbox is worth. -/
noncomputable def Try.pinned : Pinned := { name := "ytnpfogjbebdlfaa", sum := "92a12dbe2dd6a088c52145ce0a954d14b2d14f1eaed8275369b56dfbaf3e771f", checked := Try.checked }
namespace Rows
def none {H : Type} : Left H := { results := [], args := [] }

/-- 'gudgeonlaw15.ConfWays': WHATEVER THE INPUT: true; the input reads as it did. -/
def confWaysSpec : ChangeSpec := { name := "confWays", fn := fun _ => fun
  | [d1, d2] => { results := [.lit (.bool true)], args := [d1, d2] }
  | _ => none }
def confWaysRow : OpenClaim := { program := "ytnpfogjbebdlfaa", sum := "92a12dbe2dd6a088c52145ce0a954d14b2d14f1eaed8275369b56dfbaf3e771f", func := "gudgeon/gudgeonlaw15.ConfWays", spec := "confWays", inPlace := ["slices.overlaps[int]"], unfollowed := true, recurses := true, apart := false }
def ConfWaysSaid : Prop := confWaysRow.holds Try.pinned (OpenSpec.ofChange confWaysSpec)

/-- ITS FALSE NEIGHBOUR: 'it returns false'. Refute it at one input. -/
def confWaysWrong : ChangeSpec := { name := "confWays", fn := fun _ => fun
  | [d1, d2] => { results := [.lit (.bool false)], args := [d1, d2] }
  | _ => none }
def ConfWaysWrongFalsely : Prop := confWaysRow.holds Try.pinned (OpenSpec.ofChange confWaysWrong)

/-- 'gudgeonlaw15.ConfSafe': WHATEVER THE INPUT: true; the input reads as it did. -/
def confSafeSpec : ChangeSpec := { name := "confSafe", fn := fun _ => fun
  | [d1, d2] => { results := [.lit (.bool true)], args := [d1, d2] }
  | _ => none }
def confSafeRow : OpenClaim := { program := "ytnpfogjbebdlfaa", sum := "92a12dbe2dd6a088c52145ce0a954d14b2d14f1eaed8275369b56dfbaf3e771f", func := "gudgeon/gudgeonlaw15.ConfSafe", spec := "confSafe", inPlace := ["slices.overlaps[int]"], unfollowed := true, recurses := true, apart := false }
def ConfSafeSaid : Prop := confSafeRow.holds Try.pinned (OpenSpec.ofChange confSafeSpec)

/-- ITS FALSE NEIGHBOUR: 'it returns false'. Refute it at one input. -/
def confSafeWrong : ChangeSpec := { name := "confSafe", fn := fun _ => fun
  | [d1, d2] => { results := [.lit (.bool false)], args := [d1, d2] }
  | _ => none }
def ConfSafeWrongFalsely : Prop := confSafeRow.holds Try.pinned (OpenSpec.ofChange confSafeWrong)

/-- 'gudgeonlaw15.ConfCaught': WHATEVER THE INPUT: true; the input reads as it did. -/
def confCaughtSpec : ChangeSpec := { name := "confCaught", fn := fun _ => fun
  | [d1, d2, d3] => { results := [.lit (.bool true)], args := [d1, d2, d3] }
  | _ => none }
def confCaughtRow : OpenClaim := { program := "ytnpfogjbebdlfaa", sum := "92a12dbe2dd6a088c52145ce0a954d14b2d14f1eaed8275369b56dfbaf3e771f", func := "gudgeon/gudgeonlaw15.ConfCaught", spec := "confCaught", inPlace := ["slices.overlaps[int]"], unfollowed := true, recurses := true, apart := false }
def ConfCaughtSaid : Prop := confCaughtRow.holds Try.pinned (OpenSpec.ofChange confCaughtSpec)

/-- ITS FALSE NEIGHBOUR: 'it returns false'. Refute it at one input. -/
def confCaughtWrong : ChangeSpec := { name := "confCaught", fn := fun _ => fun
  | [d1, d2, d3] => { results := [.lit (.bool false)], args := [d1, d2, d3] }
  | _ => none }
def ConfCaughtWrongFalsely : Prop := confCaughtRow.holds Try.pinned (OpenSpec.ofChange confCaughtWrong)

/- THE SECOND FORM. 'bulk': how many values and letters a reading holds, each counted each time it is reached (what is shared counts as often as it is met; a slice's spare places count too). A statement '..UptoSaid' is the law's where the arguments, and the package variables that the reading takes, are together of bulk at most 1048576: NARROWER than '..Said'. Prove '..Said' where nothing that the law and all that it calls make is longer than what came in: it says more and counts as full. Else prove '..UptoSaid'. A law counts once. -/
mutual
def uptoBulk {H : Type} : DataW H → Nat
  | .lit (.string bytes) => bytes.length + 1
  | .lit _ => 1
  | .nil => 1
  | .ptr d => uptoBulk d + 1
  | .slice elems spare => uptoBulkAll elems + uptoBulkAll spare + 1
  | .agg parts => uptoBulkAll parts + 1
  | .iface _ d => uptoBulk d + 1
  | .map entries => uptoBulkEntries entries + 1
  | .held _ => 1
def uptoBulkAll {H : Type} : List (DataW H) → Nat
  | [] => 0
  | d :: r => uptoBulk d + uptoBulkAll r
def uptoBulkEntries {H : Type} : List (Lit × DataW H) → Nat
  | [] => 0
  | x :: r => uptoBulkEntry x + uptoBulkEntries r
def uptoBulkEntry {H : Type} : Lit × DataW H → Nat
  | (.string bytes, d) => bytes.length + uptoBulk d + 1
  | (_, d) => uptoBulk d + 1
 end
def uptoSmall : (H : Type) → List (DataW H) → Bool := fun _ ds => decide (uptoBulkAll ds ≤ 1048576)
def OpenSpec.upto (s : _root_.Go.ChangeSpec) : _root_.Go.OpenSpec := { _root_.Go.OpenSpec.ofChange s with cond := some uptoSmall }

/-- 'gudgeonlaw15.ConfWays', WHERE WHAT IT READS IS OF BULK AT MOST 1048576: true; the input reads as it did. -/
def confWaysUptoRow : OpenClaim := { program := "ytnpfogjbebdlfaa", sum := "92a12dbe2dd6a088c52145ce0a954d14b2d14f1eaed8275369b56dfbaf3e771f", func := "gudgeon/gudgeonlaw15.ConfWays", spec := "confWays", inPlace := ["slices.overlaps[int]"], unfollowed := true, recurses := true, apart := false, narrowed := true }
def ConfWaysUptoSaid : Prop := confWaysUptoRow.holds Try.pinned (OpenSpec.upto confWaysSpec)

/-- 'gudgeonlaw15.ConfSafe', WHERE WHAT IT READS IS OF BULK AT MOST 1048576: true; the input reads as it did. -/
def confSafeUptoRow : OpenClaim := { program := "ytnpfogjbebdlfaa", sum := "92a12dbe2dd6a088c52145ce0a954d14b2d14f1eaed8275369b56dfbaf3e771f", func := "gudgeon/gudgeonlaw15.ConfSafe", spec := "confSafe", inPlace := ["slices.overlaps[int]"], unfollowed := true, recurses := true, apart := false, narrowed := true }
def ConfSafeUptoSaid : Prop := confSafeUptoRow.holds Try.pinned (OpenSpec.upto confSafeSpec)

/-- 'gudgeonlaw15.ConfCaught', WHERE WHAT IT READS IS OF BULK AT MOST 1048576: true; the input reads as it did. -/
def confCaughtUptoRow : OpenClaim := { program := "ytnpfogjbebdlfaa", sum := "92a12dbe2dd6a088c52145ce0a954d14b2d14f1eaed8275369b56dfbaf3e771f", func := "gudgeon/gudgeonlaw15.ConfCaught", spec := "confCaught", inPlace := ["slices.overlaps[int]"], unfollowed := true, recurses := true, apart := false, narrowed := true }
def ConfCaughtUptoSaid : Prop := confCaughtUptoRow.holds Try.pinned (OpenSpec.upto confCaughtSpec)

end Rows
end Go.Proofs.Ytnpfogjbebdlfaa
