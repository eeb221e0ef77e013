/-
  No cell of these rows narrows 'for every input' (looked for: loops, veiled, ifaces, maps, wideKeys, modest, calm, conditions, laid).
  DERIVED. THE GIVEN ROWS OF THIS SEAT. 4 by the template 'for every input the law returns true; each argument reads behind the call as it read before'; 0 by the template 'total and deterministic' (their statements: YtfhocjhnoocajaaTotals.lean).
  GIVEN WITH THE SEED: the statements are not yours to turn. If you find one false, say at which input.
  Laid BY PROGRAM, IN A SANDBOX (cutbox-rows.mjs): the forced cells as the released guide's own fill.sh prints them over the translation 97493adcda20508f… (all of the seat's roots in one cut). By AI agents, Wed Nov 11 2026. No macro, syntax, notation, axiom, sorry.
-/
import Derived.Test.YtfhocjhnoocajaaChecked
import GoSem.Claim
import GoSem.ClaimJoined
import GoSem.ClaimMapViews
import Derived.JoinedTies
import Derived.KernelRfl
namespace Go.Proofs.Ytfhocjhnoocajaa
/- THE CELL 'sum', in the pinned program and in every row, IS THE sha256 OF THE DUMP (.gsa) THAT YtfhocjhnoocajaaProg.lean LOADS. Nothing in Lean hashes anything: it is a label: what it is worth is what the hold of that sum in a sandbox is worth. -/
noncomputable def Try.pinned : Pinned := { name := "ytfhocjhnoocajaa", sum := "97493adcda20508f878abef4ae83b619de94e7536a73353ec18664ec8dab0863", checked := Try.checked }
namespace Rows
def none {H : Type} : Left H := { results := [], args := [] }

/-- 'gudgeonlaw16.SessionActs': WHATEVER THE INPUT: true; the input reads as it did. -/
def sessionActsSpec : ChangeSpec := { name := "sessionActs", fn := fun _ => fun
  | [d1, d2, d3] => { results := [.lit (.bool true)], args := [d1, d2, d3] }
  | _ => none }
def sessionActsRow : OpenClaim := { program := "ytfhocjhnoocajaa", sum := "97493adcda20508f878abef4ae83b619de94e7536a73353ec18664ec8dab0863", func := "gudgeon/gudgeonlaw16.SessionActs", spec := "sessionActs", inPlace := ["slices.overlaps[gudgeon/api.Seat]"], unfollowed := true, recurses := true, plainKeys := false, apart := false }
def SessionActsSaid : Prop := sessionActsRow.holds Try.pinned (OpenSpec.ofChange sessionActsSpec)

/-- ITS FALSE NEIGHBOUR: 'it returns false'. Refute it at one input. -/
def sessionActsWrong : ChangeSpec := { name := "sessionActs", fn := fun _ => fun
  | [d1, d2, d3] => { results := [.lit (.bool false)], args := [d1, d2, d3] }
  | _ => none }
def SessionActsWrongFalsely : Prop := sessionActsRow.holds Try.pinned (OpenSpec.ofChange sessionActsWrong)

/-- 'gudgeonlaw16.SessionOnce': WHATEVER THE INPUT: true; the input reads as it did. -/
def sessionOnceSpec : ChangeSpec := { name := "sessionOnce", fn := fun _ => fun
  | [d] => { results := [.lit (.bool true)], args := [d] }
  | _ => none }
def sessionOnceRow : OpenClaim := { program := "ytfhocjhnoocajaa", sum := "97493adcda20508f878abef4ae83b619de94e7536a73353ec18664ec8dab0863", func := "gudgeon/gudgeonlaw16.SessionOnce", spec := "sessionOnce", inPlace := ["slices.overlaps[gudgeon/api.Seat]"], unfollowed := true, recurses := true, plainKeys := false, apart := false }
def SessionOnceSaid : Prop := sessionOnceRow.holds Try.pinned (OpenSpec.ofChange sessionOnceSpec)

/-- ITS FALSE NEIGHBOUR: 'it returns false'. Refute it at one input. -/
def sessionOnceWrong : ChangeSpec := { name := "sessionOnce", fn := fun _ => fun
  | [d] => { results := [.lit (.bool false)], args := [d] }
  | _ => none }
def SessionOnceWrongFalsely : Prop := sessionOnceRow.holds Try.pinned (OpenSpec.ofChange sessionOnceWrong)

/-- 'gudgeonlaw16.SessionDecodes': WHATEVER THE INPUT: true; the input reads as it did. -/
def sessionDecodesSpec : ChangeSpec := { name := "sessionDecodes", fn := fun _ => fun
  | [d] => { results := [.lit (.bool true)], args := [d] }
  | _ => none }
def sessionDecodesRow : OpenClaim := { program := "ytfhocjhnoocajaa", sum := "97493adcda20508f878abef4ae83b619de94e7536a73353ec18664ec8dab0863", func := "gudgeon/gudgeonlaw16.SessionDecodes", spec := "sessionDecodes", inPlace := ["slices.overlaps[gudgeon/api.Seat]"], unfollowed := true, recurses := true, plainKeys := false, apart := false }
def SessionDecodesSaid : Prop := sessionDecodesRow.holds Try.pinned (OpenSpec.ofChange sessionDecodesSpec)

/-- ITS FALSE NEIGHBOUR: 'it returns false'. Refute it at one input. -/
def sessionDecodesWrong : ChangeSpec := { name := "sessionDecodes", fn := fun _ => fun
  | [d] => { results := [.lit (.bool false)], args := [d] }
  | _ => none }
def SessionDecodesWrongFalsely : Prop := sessionDecodesRow.holds Try.pinned (OpenSpec.ofChange sessionDecodesWrong)

/-- 'gudgeonlaw16.SessionCodes': WHATEVER THE INPUT: true; the input reads as it did. -/
def sessionCodesSpec : ChangeSpec := { name := "sessionCodes", fn := fun _ => fun
  | [d] => { results := [.lit (.bool true)], args := [d] }
  | _ => none }
def sessionCodesRow : OpenClaim := { program := "ytfhocjhnoocajaa", sum := "97493adcda20508f878abef4ae83b619de94e7536a73353ec18664ec8dab0863", func := "gudgeon/gudgeonlaw16.SessionCodes", spec := "sessionCodes", inPlace := ["slices.overlaps[gudgeon/api.Seat]"], unfollowed := true, recurses := true, plainKeys := false, apart := false }
def SessionCodesSaid : Prop := sessionCodesRow.holds Try.pinned (OpenSpec.ofChange sessionCodesSpec)

/-- ITS FALSE NEIGHBOUR: 'it returns false'. Refute it at one input. -/
def sessionCodesWrong : ChangeSpec := { name := "sessionCodes", fn := fun _ => fun
  | [d] => { results := [.lit (.bool false)], args := [d] }
  | _ => none }
def SessionCodesWrongFalsely : Prop := sessionCodesRow.holds Try.pinned (OpenSpec.ofChange sessionCodesWrong)

/- THE SECOND FORM. 'bulk': how many values and letters a reading holds, each counted each time it is reached (what is shared counts as often as it is met; a slice's spare places count too). A statement '..UptoSaid' is the law's where the arguments, and the package variables that the reading takes, are together of bulk at most 1048576: NARROWER than '..Said'. Prove '..Said' where nothing that the law and all that it calls make is longer than what came in: it says more and counts as full. Else prove '..UptoSaid'. A law counts once. -/
mutual
def uptoBulk {H : Type} : DataW H → Nat
  | .lit (.string bytes) => bytes.length + 1
  | .lit _ => 1
  | .nil => 1
  | .ptr d => uptoBulk d + 1
  | .slice elems spare => uptoBulkAll elems + uptoBulkAll spare + 1
  | .agg parts => uptoBulkAll parts + 1
  | .iface _ d => uptoBulk d + 1
  | .map entries => uptoBulkEntries entries + 1
  | .held _ => 1
def uptoBulkAll {H : Type} : List (DataW H) → Nat
  | [] => 0
  | d :: r => uptoBulk d + uptoBulkAll r
def uptoBulkEntries {H : Type} : List (Lit × DataW H) → Nat
  | [] => 0
  | x :: r => uptoBulkEntry x + uptoBulkEntries r
def uptoBulkEntry {H : Type} : Lit × DataW H → Nat
  | (.string bytes, d) => bytes.length + uptoBulk d + 1
  | (_, d) => uptoBulk d + 1
 end
def uptoSmall : (H : Type) → List (DataW H) → Bool := fun _ ds => decide (uptoBulkAll ds ≤ 1048576)
def OpenSpec.upto (s : _root_.Go.ChangeSpec) : _root_.Go.OpenSpec := { _root_.Go.OpenSpec.ofChange s with cond := some uptoSmall }

/-- 'gudgeonlaw16.SessionActs', WHERE WHAT IT READS IS OF BULK AT MOST 1048576: true; the input reads as it did. -/
def sessionActsUptoRow : OpenClaim := { program := "ytfhocjhnoocajaa", sum := "97493adcda20508f878abef4ae83b619de94e7536a73353ec18664ec8dab0863", func := "gudgeon/gudgeonlaw16.SessionActs", spec := "sessionActs", inPlace := ["slices.overlaps[gudgeon/api.Seat]"], unfollowed := true, recurses := true, plainKeys := false, apart := false, narrowed := true }
def SessionActsUptoSaid : Prop := sessionActsUptoRow.holds Try.pinned (OpenSpec.upto sessionActsSpec)

/-- 'gudgeonlaw16.SessionOnce', WHERE WHAT IT READS IS OF BULK AT MOST 1048576: true; the input reads as it did. -/
def sessionOnceUptoRow : OpenClaim := { program := "ytfhocjhnoocajaa", sum := "97493adcda20508f878abef4ae83b619de94e7536a73353ec18664ec8dab0863", func := "gudgeon/gudgeonlaw16.SessionOnce", spec := "sessionOnce", inPlace := ["slices.overlaps[gudgeon/api.Seat]"], unfollowed := true, recurses := true, plainKeys := false, apart := false, narrowed := true }
def SessionOnceUptoSaid : Prop := sessionOnceUptoRow.holds Try.pinned (OpenSpec.upto sessionOnceSpec)

/-- 'gudgeonlaw16.SessionDecodes', WHERE WHAT IT READS IS OF BULK AT MOST 1048576: true; the input reads as it did. -/
def sessionDecodesUptoRow : OpenClaim := { program := "ytfhocjhnoocajaa", sum := "97493adcda20508f878abef4ae83b619de94e7536a73353ec18664ec8dab0863", func := "gudgeon/gudgeonlaw16.SessionDecodes", spec := "sessionDecodes", inPlace := ["slices.overlaps[gudgeon/api.Seat]"], unfollowed := true, recurses := true, plainKeys := false, apart := false, narrowed := true }
def SessionDecodesUptoSaid : Prop := sessionDecodesUptoRow.holds Try.pinned (OpenSpec.upto sessionDecodesSpec)

/-- 'gudgeonlaw16.SessionCodes', WHERE WHAT IT READS IS OF BULK AT MOST 1048576: true; the input reads as it did. -/
def sessionCodesUptoRow : OpenClaim := { program := "ytfhocjhnoocajaa", sum := "97493adcda20508f878abef4ae83b619de94e7536a73353ec18664ec8dab0863", func := "gudgeon/gudgeonlaw16.SessionCodes", spec := "sessionCodes", inPlace := ["slices.overlaps[gudgeon/api.Seat]"], unfollowed := true, recurses := true, plainKeys := false, apart := false, narrowed := true }
def SessionCodesUptoSaid : Prop := sessionCodesUptoRow.holds Try.pinned (OpenSpec.upto sessionCodesSpec)

end Rows
end Go.Proofs.Ytfhocjhnoocajaa
