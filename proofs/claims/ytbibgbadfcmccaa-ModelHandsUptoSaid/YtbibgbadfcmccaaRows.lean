/-
  No cell of these rows narrows 'for every input' (looked for: loops, veiled, ifaces, maps, wideKeys, modest, calm, conditions, laid).
  DERIVED. THE GIVEN ROWS OF THIS SEAT. 4 by the template 'for every input the law returns true; each argument reads behind the call as it read before'; 0 by the template 'total and deterministic' (their statements: YtbibgbadfcmccaaTotals.lean).
  GIVEN WITH THE SEED: the statements are not yours to turn. If you find one false, say at which input.
  Laid BY PROGRAM, IN A SANDBOX (cutbox-rows.mjs): the forced cells as the released guide's own fill.sh prints them over the translation 3754d9e6823b077f… (all of the seat's roots in one cut). By AI agents, Wed Nov 11 2026. No macro, syntax, notation, axiom, sorry.
-/
import Derived.Test.YtbibgbadfcmccaaChecked
import GoSem.Claim
import GoSem.ClaimJoined
import GoSem.ClaimMapViews
import Derived.JoinedTies
import Derived.KernelRfl
namespace Go.Proofs.Ytbibgbadfcmccaa
/- THE CELL 'sum', in the pinned program and in every row, IS THE sha256 OF THE DUMP (.gsa) THAT YtbibgbadfcmccaaProg.lean LOADS. Nothing in Lean hashes anything: it is a label: what it is worth is what the hold of that sum in a sandbox is worth. -/
noncomputable def Try.pinned : Pinned := { name := "ytbibgbadfcmccaa", sum := "3754d9e6823b077f67398092bbc0bfac2b8fef6cb7bd4c0c256ee0aa733568f5", checked := Try.checked }
namespace Rows
def none {H : Type} : Left H := { results := [], args := [] }

/-- 'gudgeonlaw24.ModelDoes': WHATEVER THE INPUT: true; the input reads as it did. -/
def modelDoesSpec : ChangeSpec := { name := "modelDoes", fn := fun _ => fun
  | [d1, d2, d3] => { results := [.lit (.bool true)], args := [d1, d2, d3] }
  | _ => none }
def modelDoesRow : OpenClaim := { program := "ytbibgbadfcmccaa", sum := "3754d9e6823b077f67398092bbc0bfac2b8fef6cb7bd4c0c256ee0aa733568f5", func := "gudgeon/gudgeonlaw24.ModelDoes", spec := "modelDoes", inPlace := ["internal/bytealg.abigen_runtime_cmpstring", "slices.overlaps[gudgeon/api.Mark]"], unfollowed := true, recurses := true, apart := false }
def ModelDoesSaid : Prop := modelDoesRow.holds Try.pinned (OpenSpec.ofChange modelDoesSpec)

/-- ITS FALSE NEIGHBOUR: 'it returns false'. Refute it at one input. -/
def modelDoesWrong : ChangeSpec := { name := "modelDoes", fn := fun _ => fun
  | [d1, d2, d3] => { results := [.lit (.bool false)], args := [d1, d2, d3] }
  | _ => none }
def ModelDoesWrongFalsely : Prop := modelDoesRow.holds Try.pinned (OpenSpec.ofChange modelDoesWrong)

/-- 'gudgeonlaw24.ModelMays': WHATEVER THE INPUT: true; the input reads as it did. -/
def modelMaysSpec : ChangeSpec := { name := "modelMays", fn := fun _ => fun
  | [d1, d2, d3] => { results := [.lit (.bool true)], args := [d1, d2, d3] }
  | _ => none }
def modelMaysRow : OpenClaim := { program := "ytbibgbadfcmccaa", sum := "3754d9e6823b077f67398092bbc0bfac2b8fef6cb7bd4c0c256ee0aa733568f5", func := "gudgeon/gudgeonlaw24.ModelMays", spec := "modelMays", inPlace := ["internal/bytealg.abigen_runtime_cmpstring", "slices.overlaps[gudgeon/api.Mark]"], unfollowed := true, recurses := true, apart := false }
def ModelMaysSaid : Prop := modelMaysRow.holds Try.pinned (OpenSpec.ofChange modelMaysSpec)

/-- ITS FALSE NEIGHBOUR: 'it returns false'. Refute it at one input. -/
def modelMaysWrong : ChangeSpec := { name := "modelMays", fn := fun _ => fun
  | [d1, d2, d3] => { results := [.lit (.bool false)], args := [d1, d2, d3] }
  | _ => none }
def ModelMaysWrongFalsely : Prop := modelMaysRow.holds Try.pinned (OpenSpec.ofChange modelMaysWrong)

/-- 'gudgeonlaw24.ModelExpires': WHATEVER THE INPUT: true; the input reads as it did. -/
def modelExpiresSpec : ChangeSpec := { name := "modelExpires", fn := fun _ => fun
  | [d1, d2] => { results := [.lit (.bool true)], args := [d1, d2] }
  | _ => none }
def modelExpiresRow : OpenClaim := { program := "ytbibgbadfcmccaa", sum := "3754d9e6823b077f67398092bbc0bfac2b8fef6cb7bd4c0c256ee0aa733568f5", func := "gudgeon/gudgeonlaw24.ModelExpires", spec := "modelExpires", inPlace := ["internal/bytealg.abigen_runtime_cmpstring", "slices.overlaps[gudgeon/api.Mark]"], unfollowed := true, recurses := true, apart := false }
def ModelExpiresSaid : Prop := modelExpiresRow.holds Try.pinned (OpenSpec.ofChange modelExpiresSpec)

/-- ITS FALSE NEIGHBOUR: 'it returns false'. Refute it at one input. -/
def modelExpiresWrong : ChangeSpec := { name := "modelExpires", fn := fun _ => fun
  | [d1, d2] => { results := [.lit (.bool false)], args := [d1, d2] }
  | _ => none }
def ModelExpiresWrongFalsely : Prop := modelExpiresRow.holds Try.pinned (OpenSpec.ofChange modelExpiresWrong)

/-- 'gudgeonlaw24.ModelHands': WHATEVER THE INPUT: true; the input reads as it did. -/
def modelHandsSpec : ChangeSpec := { name := "modelHands", fn := fun _ => fun
  | [d1, d2] => { results := [.lit (.bool true)], args := [d1, d2] }
  | _ => none }
def modelHandsRow : OpenClaim := { program := "ytbibgbadfcmccaa", sum := "3754d9e6823b077f67398092bbc0bfac2b8fef6cb7bd4c0c256ee0aa733568f5", func := "gudgeon/gudgeonlaw24.ModelHands", spec := "modelHands", inPlace := ["internal/bytealg.abigen_runtime_cmpstring", "slices.overlaps[gudgeon/api.Mark]"], unfollowed := true, recurses := true, apart := false }
def ModelHandsSaid : Prop := modelHandsRow.holds Try.pinned (OpenSpec.ofChange modelHandsSpec)

/-- ITS FALSE NEIGHBOUR: 'it returns false'. Refute it at one input. -/
def modelHandsWrong : ChangeSpec := { name := "modelHands", fn := fun _ => fun
  | [d1, d2] => { results := [.lit (.bool false)], args := [d1, d2] }
  | _ => none }
def ModelHandsWrongFalsely : Prop := modelHandsRow.holds Try.pinned (OpenSpec.ofChange modelHandsWrong)

/- THE SECOND FORM. 'bulk': how many values and letters a reading holds, each counted each time it is reached (what is shared counts as often as it is met; a slice's spare places count too). A statement '..UptoSaid' is the law's where the arguments, and the package variables that the reading takes, are together of bulk at most 1048576: NARROWER than '..Said'. Prove '..Said' where nothing that the law and all that it calls make is longer than what came in: it says more and counts as full. Else prove '..UptoSaid'. A law counts once. -/
mutual
def uptoBulk {H : Type} : DataW H → Nat
  | .lit (.string bytes) => bytes.length + 1
  | .lit _ => 1
  | .nil => 1
  | .ptr d => uptoBulk d + 1
  | .slice elems spare => uptoBulkAll elems + uptoBulkAll spare + 1
  | .agg parts => uptoBulkAll parts + 1
  | .iface _ d => uptoBulk d + 1
  | .map entries => uptoBulkEntries entries + 1
  | .held _ => 1
def uptoBulkAll {H : Type} : List (DataW H) → Nat
  | [] => 0
  | d :: r => uptoBulk d + uptoBulkAll r
def uptoBulkEntries {H : Type} : List (Lit × DataW H) → Nat
  | [] => 0
  | x :: r => uptoBulkEntry x + uptoBulkEntries r
def uptoBulkEntry {H : Type} : Lit × DataW H → Nat
  | (.string bytes, d) => bytes.length + uptoBulk d + 1
  | (_, d) => uptoBulk d + 1
 end
def uptoSmall : (H : Type) → List (DataW H) → Bool := fun _ ds => decide (uptoBulkAll ds ≤ 1048576)
def OpenSpec.upto (s : _root_.Go.ChangeSpec) : _root_.Go.OpenSpec := { _root_.Go.OpenSpec.ofChange s with cond := some uptoSmall }

/-- 'gudgeonlaw24.ModelDoes', WHERE WHAT IT READS IS OF BULK AT MOST 1048576: true; the input reads as it did. -/
def modelDoesUptoRow : OpenClaim := { program := "ytbibgbadfcmccaa", sum := "3754d9e6823b077f67398092bbc0bfac2b8fef6cb7bd4c0c256ee0aa733568f5", func := "gudgeon/gudgeonlaw24.ModelDoes", spec := "modelDoes", inPlace := ["internal/bytealg.abigen_runtime_cmpstring", "slices.overlaps[gudgeon/api.Mark]"], unfollowed := true, recurses := true, apart := false, narrowed := true }
def ModelDoesUptoSaid : Prop := modelDoesUptoRow.holds Try.pinned (OpenSpec.upto modelDoesSpec)

/-- 'gudgeonlaw24.ModelMays', WHERE WHAT IT READS IS OF BULK AT MOST 1048576: true; the input reads as it did. -/
def modelMaysUptoRow : OpenClaim := { program := "ytbibgbadfcmccaa", sum := "3754d9e6823b077f67398092bbc0bfac2b8fef6cb7bd4c0c256ee0aa733568f5", func := "gudgeon/gudgeonlaw24.ModelMays", spec := "modelMays", inPlace := ["internal/bytealg.abigen_runtime_cmpstring", "slices.overlaps[gudgeon/api.Mark]"], unfollowed := true, recurses := true, apart := false, narrowed := true }
def ModelMaysUptoSaid : Prop := modelMaysUptoRow.holds Try.pinned (OpenSpec.upto modelMaysSpec)

/-- 'gudgeonlaw24.ModelExpires', WHERE WHAT IT READS IS OF BULK AT MOST 1048576: true; the input reads as it did. -/
def modelExpiresUptoRow : OpenClaim := { program := "ytbibgbadfcmccaa", sum := "3754d9e6823b077f67398092bbc0bfac2b8fef6cb7bd4c0c256ee0aa733568f5", func := "gudgeon/gudgeonlaw24.ModelExpires", spec := "modelExpires", inPlace := ["internal/bytealg.abigen_runtime_cmpstring", "slices.overlaps[gudgeon/api.Mark]"], unfollowed := true, recurses := true, apart := false, narrowed := true }
def ModelExpiresUptoSaid : Prop := modelExpiresUptoRow.holds Try.pinned (OpenSpec.upto modelExpiresSpec)

/-- 'gudgeonlaw24.ModelHands', WHERE WHAT IT READS IS OF BULK AT MOST 1048576: true; the input reads as it did. -/
def modelHandsUptoRow : OpenClaim := { program := "ytbibgbadfcmccaa", sum := "3754d9e6823b077f67398092bbc0bfac2b8fef6cb7bd4c0c256ee0aa733568f5", func := "gudgeon/gudgeonlaw24.ModelHands", spec := "modelHands", inPlace := ["internal/bytealg.abigen_runtime_cmpstring", "slices.overlaps[gudgeon/api.Mark]"], unfollowed := true, recurses := true, apart := false, narrowed := true }
def ModelHandsUptoSaid : Prop := modelHandsUptoRow.holds Try.pinned (OpenSpec.upto modelHandsSpec)

end Rows
end Go.Proofs.Ytbibgbadfcmccaa
