/- SpanSplits: 'which keys a span has; its parts', for every input of bulk at most 1048576. No condition beside the statement's own. -/
import Derived.Test.YtlgfmkccnljhoaaRows
import Derived.Test.YtlgfmkccnljhoaaP
import Derived.Test.YtlgfmkccnljhoaaA
import Derived.ProofKit
import Derived.OpenShut
import Derived.JoinedCond
namespace Go.Proofs.Ytlgfmkccnljhoaa.gg
open Go Go.GG Go.Proofs Go.ChangeShapes Go.WideShapes Go.ChangeAt Go.RowKit
theorem own_spanSplits : ownKnob Try.prog.godebug = none := by kernel_rfl
theorem laid_spanSplits : laidOutB Try.prog = true := by kernel_rfl
def bulk_spanSplits (H : Type) : Bulk H where
  one := Rows.uptoBulk
  all := Rows.uptoBulkAll
  nil := by simp [Rows.uptoBulkAll]
  cons := fun d r => by simp [Rows.uptoBulkAll]
  lit := fun l => by cases l <;> simp [Rows.uptoBulk]
  str := fun l => by simp [Rows.uptoBulk]
  none := by simp [Rows.uptoBulk]
  slice := fun e r => by simp [Rows.uptoBulk]
  agg := fun p => by simp [Rows.uptoBulk]
theorem plain_spanSplits : ∀ x : RD PK.den ([.agg (.pair .str .str), .imm .str, .imm .str] : List PK), wfAll ([.agg (.pair .str .str), .imm .str, .imm .str] : List PK) x → bulkAll ([.agg (.pair .str .str), .imm .str, .imm .str] : List PK) x ≤ 1048576 → ∃ k, law10_SpanSplits_spec.F k x = some true := fun x hw hb => law_SpanSplits x.1 x.2.1 x.2.2
set_option maxRecDepth 100000 in
theorem lifted_spanSplits (os : Os) (started : os.Started) (H : Type) (enc : TypeId × Value → H) (F : Stop.Interp) :
    ReturnsInHanded {} Try.checked os 3 .any ((Rows.OpenSpec.upto Rows.spanSplitsSpec).pre6 enc Try.prog Try.f3 Rows.spanSplitsUptoRow.domain false) (((Rows.OpenSpec.upto Rows.spanSplitsSpec).at F).post enc Try.prog Try.f3 false true false false) := by
  refine returnsInHanded_of_cond (C := Try.checked) (s := Rows.OpenSpec.upto Rows.spanSplitsSpec) (k := Rows.uptoSmall) rfl own_spanSplits started (by kernel_rfl) Try.func3
    (OpenSpec.witness (enc := enc) (C := Try.checked) (s := Rows.OpenSpec.upto Rows.spanSplitsSpec) (k := Rows.uptoSmall) rfl false ⟨#[], #[.agg #[.string .empty, .string .empty], .string .empty, .string .empty], []⟩ 12 (by kernel_rfl) (by kernel_rfl) (by kernel_rfl)
      (x := ([.agg [.lit (.string []), .lit (.string [])], .lit (.string []), .lit (.string [])], [], [])) (by kernel_rfl) rfl (by kernel_rfl)) ?_
  intro W base args ds gs before hval hW _ hk _
  have hb : Rows.uptoBulkAll (ds ++ gs) ≤ 1048576 := of_decide_eq_true hk
  exact law_contract (s := Rows.spanSplitsSpec) (bulk_spanSplits H) law10_SpanSplits_sok (by kernel_rfl) rfl rfl (by kernel_rfl : Try.prog.underlying 4 = some .bool) laid_spanSplits (by kernel_rfl) hval hW
    (fun ds h => by match ds, h with | [d1, d2, d3], _ => rfl) (fun x hw hx => plain_spanSplits x hw (Nat.le_trans hx hb))
theorem proved_spanSplits : Rows.SpanSplitsUptoSaid :=
  OpenClaim.holds_of_cond 3 Try.f3 rfl rfl rfl rfl rfl rfl rfl ⟨rfl, rfl, rfl, rfl, rfl⟩ rfl rfl rfl rfl rfl (by kernel_rfl) Try.func3 (by kernel_rfl)
    (of_decide_eq_true (by kernel_rfl)) (by unfold Func.isWrapper; first | (rw [if_pos (by decide +kernel)]; kernel_rfl) | (rw [if_neg (by decide +kernel)]; exact ⟨rfl, rfl⟩))
    (fun os started H enc _ F => lifted_spanSplits os started H enc F)
end Go.Proofs.Ytlgfmkccnljhoaa.gg
