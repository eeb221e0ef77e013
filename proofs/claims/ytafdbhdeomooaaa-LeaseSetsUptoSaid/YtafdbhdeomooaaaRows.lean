/-
  No cell of these rows narrows 'for every input' (looked for: loops, veiled, ifaces, maps, wideKeys, modest, calm, conditions, laid).
  DERIVED. THE GIVEN ROWS OF THIS SEAT. 4 by the template 'for every input the law returns true; each argument reads behind the call as it read before'; 0 by the template 'total and deterministic' (their statements: YtafdbhdeomooaaaTotals.lean).
  GIVEN WITH THE SEED: the statements are not yours to turn. If you find one false, say at which input.
  Laid BY PROGRAM, IN A SANDBOX (cutbox-rows.mjs): the forced cells as the released guide's own fill.sh prints them over the translation c002287aff3fd7f9… (all of the seat's roots in one cut). By AI agents, Wed Nov 11 2026. No macro, syntax, notation, axiom, sorry.
-/
import Derived.Test.YtafdbhdeomooaaaChecked
import GoSem.Claim
import GoSem.ClaimJoined
import GoSem.ClaimMapViews
import Derived.JoinedTies
import Derived.KernelRfl
namespace Go.Proofs.Ytafdbhdeomooaaa
/- THE CELL 'sum', in the pinned program and in every row, IS THE sha256 OF THE DUMP (.gsa) THAT YtafdbhdeomooaaaProg.lean LOADS. Nothing in Lean hashes anything: it is a label: what it is worth is what the hold of that sum in a sandbox is worth. -/
noncomputable def Try.pinned : Pinned := { name := "ytafdbhdeomooaaa", sum := "c002287aff3fd7f9d5dd11a5cabe9a32e4b713c6bc19b974774090bbee184a95", checked := Try.checked }
namespace Rows
def none {H : Type} : Left H := { results := [], args := [] }

/-- 'gudgeonlaw17.LeaseTimes': WHATEVER THE INPUT: true; the input reads as it did. -/
def leaseTimesSpec : ChangeSpec := { name := "leaseTimes", fn := fun _ => fun
  | [d1, d2, d3] => { results := [.lit (.bool true)], args := [d1, d2, d3] }
  | _ => none }
def leaseTimesRow : OpenClaim := { program := "ytafdbhdeomooaaa", sum := "c002287aff3fd7f9d5dd11a5cabe9a32e4b713c6bc19b974774090bbee184a95", func := "gudgeon/gudgeonlaw17.LeaseTimes", spec := "leaseTimes", apart := false }
def LeaseTimesSaid : Prop := leaseTimesRow.holds Try.pinned (OpenSpec.ofChange leaseTimesSpec)

/-- ITS FALSE NEIGHBOUR: 'it returns false'. Refute it at one input. -/
def leaseTimesWrong : ChangeSpec := { name := "leaseTimes", fn := fun _ => fun
  | [d1, d2, d3] => { results := [.lit (.bool false)], args := [d1, d2, d3] }
  | _ => none }
def LeaseTimesWrongFalsely : Prop := leaseTimesRow.holds Try.pinned (OpenSpec.ofChange leaseTimesWrong)

/-- 'gudgeonlaw17.LeasePacks': WHATEVER THE INPUT: true; the input reads as it did. -/
def leasePacksSpec : ChangeSpec := { name := "leasePacks", fn := fun _ => fun
  | [d1, d2, d3] => { results := [.lit (.bool true)], args := [d1, d2, d3] }
  | _ => none }
def leasePacksRow : OpenClaim := { program := "ytafdbhdeomooaaa", sum := "c002287aff3fd7f9d5dd11a5cabe9a32e4b713c6bc19b974774090bbee184a95", func := "gudgeon/gudgeonlaw17.LeasePacks", spec := "leasePacks", unfollowed := true, recurses := true, apart := false }
def LeasePacksSaid : Prop := leasePacksRow.holds Try.pinned (OpenSpec.ofChange leasePacksSpec)

/-- ITS FALSE NEIGHBOUR: 'it returns false'. Refute it at one input. -/
def leasePacksWrong : ChangeSpec := { name := "leasePacks", fn := fun _ => fun
  | [d1, d2, d3] => { results := [.lit (.bool false)], args := [d1, d2, d3] }
  | _ => none }
def LeasePacksWrongFalsely : Prop := leasePacksRow.holds Try.pinned (OpenSpec.ofChange leasePacksWrong)

/-- 'gudgeonlaw17.LeaseMarks': WHATEVER THE INPUT: true; the input reads as it did. -/
def leaseMarksSpec : ChangeSpec := { name := "leaseMarks", fn := fun _ => fun
  | [d1, d2, d3] => { results := [.lit (.bool true)], args := [d1, d2, d3] }
  | _ => none }
def leaseMarksRow : OpenClaim := { program := "ytafdbhdeomooaaa", sum := "c002287aff3fd7f9d5dd11a5cabe9a32e4b713c6bc19b974774090bbee184a95", func := "gudgeon/gudgeonlaw17.LeaseMarks", spec := "leaseMarks", inPlace := ["internal/bytealg.abigen_runtime_cmpstring", "slices.overlaps[gudgeon/api.Mark]"], unfollowed := true, recurses := true, apart := false }
def LeaseMarksSaid : Prop := leaseMarksRow.holds Try.pinned (OpenSpec.ofChange leaseMarksSpec)

/-- ITS FALSE NEIGHBOUR: 'it returns false'. Refute it at one input. -/
def leaseMarksWrong : ChangeSpec := { name := "leaseMarks", fn := fun _ => fun
  | [d1, d2, d3] => { results := [.lit (.bool false)], args := [d1, d2, d3] }
  | _ => none }
def LeaseMarksWrongFalsely : Prop := leaseMarksRow.holds Try.pinned (OpenSpec.ofChange leaseMarksWrong)

/-- 'gudgeonlaw17.LeaseSets': WHATEVER THE INPUT: true; the input reads as it did. -/
def leaseSetsSpec : ChangeSpec := { name := "leaseSets", fn := fun _ => fun
  | [d1, d2, d3] => { results := [.lit (.bool true)], args := [d1, d2, d3] }
  | _ => none }
def leaseSetsRow : OpenClaim := { program := "ytafdbhdeomooaaa", sum := "c002287aff3fd7f9d5dd11a5cabe9a32e4b713c6bc19b974774090bbee184a95", func := "gudgeon/gudgeonlaw17.LeaseSets", spec := "leaseSets", inPlace := ["internal/bytealg.abigen_runtime_cmpstring", "slices.overlaps[gudgeon/api.Hold]"], unfollowed := true, recurses := true, apart := false }
def LeaseSetsSaid : Prop := leaseSetsRow.holds Try.pinned (OpenSpec.ofChange leaseSetsSpec)

/-- ITS FALSE NEIGHBOUR: 'it returns false'. Refute it at one input. -/
def leaseSetsWrong : ChangeSpec := { name := "leaseSets", fn := fun _ => fun
  | [d1, d2, d3] => { results := [.lit (.bool false)], args := [d1, d2, d3] }
  | _ => none }
def LeaseSetsWrongFalsely : Prop := leaseSetsRow.holds Try.pinned (OpenSpec.ofChange leaseSetsWrong)

/- THE SECOND FORM. 'bulk': how many values and letters a reading holds, each counted each time it is reached (what is shared counts as often as it is met; a slice's spare places count too). A statement '..UptoSaid' is the law's where the arguments, and the package variables that the reading takes, are together of bulk at most 1048576: NARROWER than '..Said'. Prove '..Said' where nothing that the law and all that it calls make is longer than what came in: it says more and counts as full. Else prove '..UptoSaid'. A law counts once. -/
mutual
def uptoBulk {H : Type} : DataW H → Nat
  | .lit (.string bytes) => bytes.length + 1
  | .lit _ => 1
  | .nil => 1
  | .ptr d => uptoBulk d + 1
  | .slice elems spare => uptoBulkAll elems + uptoBulkAll spare + 1
  | .agg parts => uptoBulkAll parts + 1
  | .iface _ d => uptoBulk d + 1
  | .map entries => uptoBulkEntries entries + 1
  | .held _ => 1
def uptoBulkAll {H : Type} : List (DataW H) → Nat
  | [] => 0
  | d :: r => uptoBulk d + uptoBulkAll r
def uptoBulkEntries {H : Type} : List (Lit × DataW H) → Nat
  | [] => 0
  | x :: r => uptoBulkEntry x + uptoBulkEntries r
def uptoBulkEntry {H : Type} : Lit × DataW H → Nat
  | (.string bytes, d) => bytes.length + uptoBulk d + 1
  | (_, d) => uptoBulk d + 1
 end
def uptoSmall : (H : Type) → List (DataW H) → Bool := fun _ ds => decide (uptoBulkAll ds ≤ 1048576)
def OpenSpec.upto (s : _root_.Go.ChangeSpec) : _root_.Go.OpenSpec := { _root_.Go.OpenSpec.ofChange s with cond := some uptoSmall }

/-- 'gudgeonlaw17.LeaseTimes', WHERE WHAT IT READS IS OF BULK AT MOST 1048576: true; the input reads as it did. -/
def leaseTimesUptoRow : OpenClaim := { program := "ytafdbhdeomooaaa", sum := "c002287aff3fd7f9d5dd11a5cabe9a32e4b713c6bc19b974774090bbee184a95", func := "gudgeon/gudgeonlaw17.LeaseTimes", spec := "leaseTimes", apart := false, narrowed := true }
def LeaseTimesUptoSaid : Prop := leaseTimesUptoRow.holds Try.pinned (OpenSpec.upto leaseTimesSpec)

/-- 'gudgeonlaw17.LeasePacks', WHERE WHAT IT READS IS OF BULK AT MOST 1048576: true; the input reads as it did. -/
def leasePacksUptoRow : OpenClaim := { program := "ytafdbhdeomooaaa", sum := "c002287aff3fd7f9d5dd11a5cabe9a32e4b713c6bc19b974774090bbee184a95", func := "gudgeon/gudgeonlaw17.LeasePacks", spec := "leasePacks", unfollowed := true, recurses := true, apart := false, narrowed := true }
def LeasePacksUptoSaid : Prop := leasePacksUptoRow.holds Try.pinned (OpenSpec.upto leasePacksSpec)

/-- 'gudgeonlaw17.LeaseMarks', WHERE WHAT IT READS IS OF BULK AT MOST 1048576: true; the input reads as it did. -/
def leaseMarksUptoRow : OpenClaim := { program := "ytafdbhdeomooaaa", sum := "c002287aff3fd7f9d5dd11a5cabe9a32e4b713c6bc19b974774090bbee184a95", func := "gudgeon/gudgeonlaw17.LeaseMarks", spec := "leaseMarks", inPlace := ["internal/bytealg.abigen_runtime_cmpstring", "slices.overlaps[gudgeon/api.Mark]"], unfollowed := true, recurses := true, apart := false, narrowed := true }
def LeaseMarksUptoSaid : Prop := leaseMarksUptoRow.holds Try.pinned (OpenSpec.upto leaseMarksSpec)

/-- 'gudgeonlaw17.LeaseSets', WHERE WHAT IT READS IS OF BULK AT MOST 1048576: true; the input reads as it did. -/
def leaseSetsUptoRow : OpenClaim := { program := "ytafdbhdeomooaaa", sum := "c002287aff3fd7f9d5dd11a5cabe9a32e4b713c6bc19b974774090bbee184a95", func := "gudgeon/gudgeonlaw17.LeaseSets", spec := "leaseSets", inPlace := ["internal/bytealg.abigen_runtime_cmpstring", "slices.overlaps[gudgeon/api.Hold]"], unfollowed := true, recurses := true, apart := false, narrowed := true }
def LeaseSetsUptoSaid : Prop := leaseSetsUptoRow.holds Try.pinned (OpenSpec.upto leaseSetsSpec)

end Rows
end Go.Proofs.Ytafdbhdeomooaaa
