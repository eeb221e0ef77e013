/-
  No cell of these rows narrows 'for every input' (looked for: loops, veiled, ifaces, maps, wideKeys, modest, calm, conditions, laid).
  DERIVED. THE GIVEN ROWS OF THIS SEAT. 3 by the template 'for every input the law returns true; each argument reads behind the call as it read before'; 0 by the template 'total and deterministic' (their statements: YtlmfnbcnfhiheaaTotals.lean).
  GIVEN WITH THE SEED: the statements are not yours to turn. If you find one false, say at which input.
  Laid BY PROGRAM, IN A SANDBOX (cutbox-rows.mjs): the forced cells as the released guide's own fill.sh prints them over the translation 6b9441e6a149901b… (all of the seat's roots in one cut). By AI agents, Wed Nov 11 2026. No macro, syntax, notation, axiom, sorry.
-/
import Derived.Test.YtlmfnbcnfhiheaaChecked
import GoSem.Claim
import GoSem.ClaimJoined
import GoSem.ClaimMapViews
import Derived.JoinedTies
import Derived.KernelRfl
namespace Go.Proofs.Ytlmfnbcnfhiheaa
/- THE CELL 'sum', in the pinned program and in every row, IS THE sha256 OF THE DUMP (.gsa) THAT YtlmfnbcnfhiheaaProg.lean LOADS. Nothing in Lean hashes anything: it is a label: what it is worth is what the hold of that sum in a sandbox is worth. -/
noncomputable def Try.pinned : Pinned := { name := "ytlmfnbcnfhiheaa", sum := "6b9441e6a149901b6d60d117f41f95c8486e17426fa3e1f37fc2fe3840cb0f19", checked := Try.checked }
namespace Rows
def none {H : Type} : Left H := { results := [], args := [] }

/-- 'gudgeonlaw18.OracleRises': WHATEVER THE INPUT: true; the input reads as it did. -/
def oracleRisesSpec : ChangeSpec := { name := "oracleRises", fn := fun _ => fun
  | [d1, d2] => { results := [.lit (.bool true)], args := [d1, d2] }
  | _ => none }
def oracleRisesRow : OpenClaim := { program := "ytlmfnbcnfhiheaa", sum := "6b9441e6a149901b6d60d117f41f95c8486e17426fa3e1f37fc2fe3840cb0f19", func := "gudgeon/gudgeonlaw18.OracleRises", spec := "oracleRises", apart := false }
def OracleRisesSaid : Prop := oracleRisesRow.holds Try.pinned (OpenSpec.ofChange oracleRisesSpec)

/-- ITS FALSE NEIGHBOUR: 'it returns false'. Refute it at one input. -/
def oracleRisesWrong : ChangeSpec := { name := "oracleRises", fn := fun _ => fun
  | [d1, d2] => { results := [.lit (.bool false)], args := [d1, d2] }
  | _ => none }
def OracleRisesWrongFalsely : Prop := oracleRisesRow.holds Try.pinned (OpenSpec.ofChange oracleRisesWrong)

/-- 'gudgeonlaw18.OracleDecodes': WHATEVER THE INPUT: true; the input reads as it did. -/
def oracleDecodesSpec : ChangeSpec := { name := "oracleDecodes", fn := fun _ => fun
  | [d] => { results := [.lit (.bool true)], args := [d] }
  | _ => none }
def oracleDecodesRow : OpenClaim := { program := "ytlmfnbcnfhiheaa", sum := "6b9441e6a149901b6d60d117f41f95c8486e17426fa3e1f37fc2fe3840cb0f19", func := "gudgeon/gudgeonlaw18.OracleDecodes", spec := "oracleDecodes", apart := false }
def OracleDecodesSaid : Prop := oracleDecodesRow.holds Try.pinned (OpenSpec.ofChange oracleDecodesSpec)

/-- ITS FALSE NEIGHBOUR: 'it returns false'. Refute it at one input. -/
def oracleDecodesWrong : ChangeSpec := { name := "oracleDecodes", fn := fun _ => fun
  | [d] => { results := [.lit (.bool false)], args := [d] }
  | _ => none }
def OracleDecodesWrongFalsely : Prop := oracleDecodesRow.holds Try.pinned (OpenSpec.ofChange oracleDecodesWrong)

/-- 'gudgeonlaw18.OracleCodes': WHATEVER THE INPUT: true; the input reads as it did. -/
def oracleCodesSpec : ChangeSpec := { name := "oracleCodes", fn := fun _ => fun
  | [d] => { results := [.lit (.bool true)], args := [d] }
  | _ => none }
def oracleCodesRow : OpenClaim := { program := "ytlmfnbcnfhiheaa", sum := "6b9441e6a149901b6d60d117f41f95c8486e17426fa3e1f37fc2fe3840cb0f19", func := "gudgeon/gudgeonlaw18.OracleCodes", spec := "oracleCodes", apart := false }
def OracleCodesSaid : Prop := oracleCodesRow.holds Try.pinned (OpenSpec.ofChange oracleCodesSpec)

/-- ITS FALSE NEIGHBOUR: 'it returns false'. Refute it at one input. -/
def oracleCodesWrong : ChangeSpec := { name := "oracleCodes", fn := fun _ => fun
  | [d] => { results := [.lit (.bool false)], args := [d] }
  | _ => none }
def OracleCodesWrongFalsely : Prop := oracleCodesRow.holds Try.pinned (OpenSpec.ofChange oracleCodesWrong)

/- THE SECOND FORM. 'bulk': how many values and letters a reading holds, each counted each time it is reached (what is shared counts as often as it is met; a slice's spare places count too). A statement '..UptoSaid' is the law's where the arguments, and the package variables that the reading takes, are together of bulk at most 1048576: NARROWER than '..Said'. Prove '..Said' where nothing that the law and all that it calls make is longer than what came in: it says more and counts as full. Else prove '..UptoSaid'. A law counts once. -/
mutual
def uptoBulk {H : Type} : DataW H → Nat
  | .lit (.string bytes) => bytes.length + 1
  | .lit _ => 1
  | .nil => 1
  | .ptr d => uptoBulk d + 1
  | .slice elems spare => uptoBulkAll elems + uptoBulkAll spare + 1
  | .agg parts => uptoBulkAll parts + 1
  | .iface _ d => uptoBulk d + 1
  | .map entries => uptoBulkEntries entries + 1
  | .held _ => 1
def uptoBulkAll {H : Type} : List (DataW H) → Nat
  | [] => 0
  | d :: r => uptoBulk d + uptoBulkAll r
def uptoBulkEntries {H : Type} : List (Lit × DataW H) → Nat
  | [] => 0
  | x :: r => uptoBulkEntry x + uptoBulkEntries r
def uptoBulkEntry {H : Type} : Lit × DataW H → Nat
  | (.string bytes, d) => bytes.length + uptoBulk d + 1
  | (_, d) => uptoBulk d + 1
 end
def uptoSmall : (H : Type) → List (DataW H) → Bool := fun _ ds => decide (uptoBulkAll ds ≤ 1048576)
def OpenSpec.upto (s : _root_.Go.ChangeSpec) : _root_.Go.OpenSpec := { _root_.Go.OpenSpec.ofChange s with cond := some uptoSmall }

/-- 'gudgeonlaw18.OracleRises', WHERE WHAT IT READS IS OF BULK AT MOST 1048576: true; the input reads as it did. -/
def oracleRisesUptoRow : OpenClaim := { program := "ytlmfnbcnfhiheaa", sum := "6b9441e6a149901b6d60d117f41f95c8486e17426fa3e1f37fc2fe3840cb0f19", func := "gudgeon/gudgeonlaw18.OracleRises", spec := "oracleRises", apart := false, narrowed := true }
def OracleRisesUptoSaid : Prop := oracleRisesUptoRow.holds Try.pinned (OpenSpec.upto oracleRisesSpec)

/-- 'gudgeonlaw18.OracleDecodes', WHERE WHAT IT READS IS OF BULK AT MOST 1048576: true; the input reads as it did. -/
def oracleDecodesUptoRow : OpenClaim := { program := "ytlmfnbcnfhiheaa", sum := "6b9441e6a149901b6d60d117f41f95c8486e17426fa3e1f37fc2fe3840cb0f19", func := "gudgeon/gudgeonlaw18.OracleDecodes", spec := "oracleDecodes", apart := false, narrowed := true }
def OracleDecodesUptoSaid : Prop := oracleDecodesUptoRow.holds Try.pinned (OpenSpec.upto oracleDecodesSpec)

/-- 'gudgeonlaw18.OracleCodes', WHERE WHAT IT READS IS OF BULK AT MOST 1048576: true; the input reads as it did. -/
def oracleCodesUptoRow : OpenClaim := { program := "ytlmfnbcnfhiheaa", sum := "6b9441e6a149901b6d60d117f41f95c8486e17426fa3e1f37fc2fe3840cb0f19", func := "gudgeon/gudgeonlaw18.OracleCodes", spec := "oracleCodes", apart := false, narrowed := true }
def OracleCodesUptoSaid : Prop := oracleCodesUptoRow.holds Try.pinned (OpenSpec.upto oracleCodesSpec)

end Rows
end Go.Proofs.Ytlmfnbcnfhiheaa
