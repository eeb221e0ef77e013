/-
  No cell of these rows narrows 'for every input' (looked for: loops, veiled, ifaces, maps, wideKeys, modest, calm, conditions, laid).
  DERIVED. THE GIVEN ROWS OF THIS SEAT. 3 by the template 'for every input the law returns true; each argument reads behind the call as it read before'; 0 by the template 'total and deterministic' (their statements: YtabdbihbodcmeaaTotals.lean).
  GIVEN WITH THE SEED: the statements are not yours to turn. If you find one false, say at which input.
  Laid BY PROGRAM, IN A SANDBOX (cutbox-rows.mjs): the forced cells as the released guide's own fill.sh prints them over the translation f6abd2446a4611bf… (all of the seat's roots in one cut). By AI agents, Wed Nov 11 2026. No macro, syntax, notation, axiom, sorry.
-/
import Derived.Test.YtabdbihbodcmeaaChecked
import GoSem.Claim
import GoSem.ClaimJoined
import GoSem.ClaimMapViews
import Derived.JoinedTies
import Derived.KernelRfl
namespace Go.Proofs.Ytabdbihbodcmeaa
/- THE CELL 'sum', in the pinned program and in every row, IS THE sha256 OF THE DUMP (.gsa) THAT YtabdbihbodcmeaaProg.lean LOADS. Nothing in Lean hashes anything: it is a label: what it is worth is what the hold of that sum in a sandbox is worth. -/
noncomputable def Try.pinned : Pinned := { name := "ytabdbihbodcmeaa", sum := "f6abd2446a4611bf038420309de50dba563ff9d2dcf1caea3fcd7bbb1a8c4398", checked := Try.checked }
namespace Rows
def none {H : Type} : Left H := { results := [], args := [] }

/-- 'gudgeonlaw22.OrderCodes': WHATEVER THE INPUT: true; the input reads as it did. -/
def orderCodesSpec : ChangeSpec := { name := "orderCodes", fn := fun _ => fun
  | [d] => { results := [.lit (.bool true)], args := [d] }
  | _ => none }
def orderCodesRow : OpenClaim := { program := "ytabdbihbodcmeaa", sum := "f6abd2446a4611bf038420309de50dba563ff9d2dcf1caea3fcd7bbb1a8c4398", func := "gudgeon/gudgeonlaw22.OrderCodes", spec := "orderCodes", unfollowed := true, recurses := true, apart := false }
def OrderCodesSaid : Prop := orderCodesRow.holds Try.pinned (OpenSpec.ofChange orderCodesSpec)

/-- ITS FALSE NEIGHBOUR: 'it returns false'. Refute it at one input. -/
def orderCodesWrong : ChangeSpec := { name := "orderCodes", fn := fun _ => fun
  | [d] => { results := [.lit (.bool false)], args := [d] }
  | _ => none }
def OrderCodesWrongFalsely : Prop := orderCodesRow.holds Try.pinned (OpenSpec.ofChange orderCodesWrong)

/-- 'gudgeonlaw22.OrderDecodes': WHATEVER THE INPUT: true; the input reads as it did. -/
def orderDecodesSpec : ChangeSpec := { name := "orderDecodes", fn := fun _ => fun
  | [d] => { results := [.lit (.bool true)], args := [d] }
  | _ => none }
def orderDecodesRow : OpenClaim := { program := "ytabdbihbodcmeaa", sum := "f6abd2446a4611bf038420309de50dba563ff9d2dcf1caea3fcd7bbb1a8c4398", func := "gudgeon/gudgeonlaw22.OrderDecodes", spec := "orderDecodes", unfollowed := true, recurses := true, apart := false }
def OrderDecodesSaid : Prop := orderDecodesRow.holds Try.pinned (OpenSpec.ofChange orderDecodesSpec)

/-- ITS FALSE NEIGHBOUR: 'it returns false'. Refute it at one input. -/
def orderDecodesWrong : ChangeSpec := { name := "orderDecodes", fn := fun _ => fun
  | [d] => { results := [.lit (.bool false)], args := [d] }
  | _ => none }
def OrderDecodesWrongFalsely : Prop := orderDecodesRow.holds Try.pinned (OpenSpec.ofChange orderDecodesWrong)

/-- 'gudgeonlaw22.OrderUnlike': WHATEVER THE INPUT: true; the input reads as it did. -/
def orderUnlikeSpec : ChangeSpec := { name := "orderUnlike", fn := fun _ => fun
  | [d1, d2] => { results := [.lit (.bool true)], args := [d1, d2] }
  | _ => none }
def orderUnlikeRow : OpenClaim := { program := "ytabdbihbodcmeaa", sum := "f6abd2446a4611bf038420309de50dba563ff9d2dcf1caea3fcd7bbb1a8c4398", func := "gudgeon/gudgeonlaw22.OrderUnlike", spec := "orderUnlike", unfollowed := true, recurses := true, apart := false }
def OrderUnlikeSaid : Prop := orderUnlikeRow.holds Try.pinned (OpenSpec.ofChange orderUnlikeSpec)

/-- ITS FALSE NEIGHBOUR: 'it returns false'. Refute it at one input. -/
def orderUnlikeWrong : ChangeSpec := { name := "orderUnlike", fn := fun _ => fun
  | [d1, d2] => { results := [.lit (.bool false)], args := [d1, d2] }
  | _ => none }
def OrderUnlikeWrongFalsely : Prop := orderUnlikeRow.holds Try.pinned (OpenSpec.ofChange orderUnlikeWrong)

/- THE SECOND FORM. 'bulk': how many values and letters a reading holds, each counted each time it is reached (what is shared counts as often as it is met; a slice's spare places count too). A statement '..UptoSaid' is the law's where the arguments, and the package variables that the reading takes, are together of bulk at most 1048576: NARROWER than '..Said'. Prove '..Said' where nothing that the law and all that it calls make is longer than what came in: it says more and counts as full. Else prove '..UptoSaid'. A law counts once. -/
mutual
def uptoBulk {H : Type} : DataW H → Nat
  | .lit (.string bytes) => bytes.length + 1
  | .lit _ => 1
  | .nil => 1
  | .ptr d => uptoBulk d + 1
  | .slice elems spare => uptoBulkAll elems + uptoBulkAll spare + 1
  | .agg parts => uptoBulkAll parts + 1
  | .iface _ d => uptoBulk d + 1
  | .map entries => uptoBulkEntries entries + 1
  | .held _ => 1
def uptoBulkAll {H : Type} : List (DataW H) → Nat
  | [] => 0
  | d :: r => uptoBulk d + uptoBulkAll r
def uptoBulkEntries {H : Type} : List (Lit × DataW H) → Nat
  | [] => 0
  | x :: r => uptoBulkEntry x + uptoBulkEntries r
def uptoBulkEntry {H : Type} : Lit × DataW H → Nat
  | (.string bytes, d) => bytes.length + uptoBulk d + 1
  | (_, d) => uptoBulk d + 1
 end
def uptoSmall : (H : Type) → List (DataW H) → Bool := fun _ ds => decide (uptoBulkAll ds ≤ 1048576)
def OpenSpec.upto (s : _root_.Go.ChangeSpec) : _root_.Go.OpenSpec := { _root_.Go.OpenSpec.ofChange s with cond := some uptoSmall }

/-- 'gudgeonlaw22.OrderCodes', WHERE WHAT IT READS IS OF BULK AT MOST 1048576: true; the input reads as it did. -/
def orderCodesUptoRow : OpenClaim := { program := "ytabdbihbodcmeaa", sum := "f6abd2446a4611bf038420309de50dba563ff9d2dcf1caea3fcd7bbb1a8c4398", func := "gudgeon/gudgeonlaw22.OrderCodes", spec := "orderCodes", unfollowed := true, recurses := true, apart := false, narrowed := true }
def OrderCodesUptoSaid : Prop := orderCodesUptoRow.holds Try.pinned (OpenSpec.upto orderCodesSpec)

/-- 'gudgeonlaw22.OrderDecodes', WHERE WHAT IT READS IS OF BULK AT MOST 1048576: true; the input reads as it did. -/
def orderDecodesUptoRow : OpenClaim := { program := "ytabdbihbodcmeaa", sum := "f6abd2446a4611bf038420309de50dba563ff9d2dcf1caea3fcd7bbb1a8c4398", func := "gudgeon/gudgeonlaw22.OrderDecodes", spec := "orderDecodes", unfollowed := true, recurses := true, apart := false, narrowed := true }
def OrderDecodesUptoSaid : Prop := orderDecodesUptoRow.holds Try.pinned (OpenSpec.upto orderDecodesSpec)

/-- 'gudgeonlaw22.OrderUnlike', WHERE WHAT IT READS IS OF BULK AT MOST 1048576: true; the input reads as it did. -/
def orderUnlikeUptoRow : OpenClaim := { program := "ytabdbihbodcmeaa", sum := "f6abd2446a4611bf038420309de50dba563ff9d2dcf1caea3fcd7bbb1a8c4398", func := "gudgeon/gudgeonlaw22.OrderUnlike", spec := "orderUnlike", unfollowed := true, recurses := true, apart := false, narrowed := true }
def OrderUnlikeUptoSaid : Prop := orderUnlikeUptoRow.holds Try.pinned (OpenSpec.upto orderUnlikeSpec)

end Rows
end Go.Proofs.Ytabdbihbodcmeaa
