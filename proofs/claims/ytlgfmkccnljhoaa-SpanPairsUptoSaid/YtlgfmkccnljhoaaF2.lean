/- SpanPairs: 'which spans may be; what two have', for every input of bulk at most 1048576. No condition beside the statement's own. -/
import Derived.Test.YtlgfmkccnljhoaaRows
import Derived.Test.YtlgfmkccnljhoaaP
import Derived.Test.YtlgfmkccnljhoaaX
import Derived.ProofKit
import Derived.OpenShut
import Derived.JoinedCond
namespace Go.Proofs.Ytlgfmkccnljhoaa.gg
open Go Go.GG Go.Proofs Go.ChangeShapes Go.WideShapes Go.ChangeAt Go.RowKit
theorem own_spanPairs : ownKnob Try.prog.godebug = none := by kernel_rfl
theorem laid_spanPairs : laidOutB Try.prog = true := by kernel_rfl
def bulk_spanPairs (H : Type) : Bulk H where
  one := Rows.uptoBulk
  all := Rows.uptoBulkAll
  nil := by simp [Rows.uptoBulkAll]
  cons := fun d r => by simp [Rows.uptoBulkAll]
  lit := fun l => by cases l <;> simp [Rows.uptoBulk]
  str := fun l => by simp [Rows.uptoBulk]
  none := by simp [Rows.uptoBulk]
  slice := fun e r => by simp [Rows.uptoBulk]
  agg := fun p => by simp [Rows.uptoBulk]
theorem plain_spanPairs : ∀ x : RD PK.den ([.agg (.pair .str .str), .agg (.pair .str .str)] : List PK), wfAll ([.agg (.pair .str .str), .agg (.pair .str .str)] : List PK) x → bulkAll ([.agg (.pair .str .str), .agg (.pair .str .str)] : List PK) x ≤ 1048576 → ∃ k, law10_SpanPairs_spec.F k x = some true := fun x hw hb => law_SpanPairs x.1 x.2
set_option maxRecDepth 100000 in
theorem lifted_spanPairs (os : Os) (started : os.Started) (H : Type) (enc : TypeId × Value → H) (F : Stop.Interp) :
    ReturnsInHanded {} Try.checked os 5 .any ((Rows.OpenSpec.upto Rows.spanPairsSpec).pre6 enc Try.prog Try.f5 Rows.spanPairsUptoRow.domain false) (((Rows.OpenSpec.upto Rows.spanPairsSpec).at F).post enc Try.prog Try.f5 false true false false) := by
  refine returnsInHanded_of_cond (C := Try.checked) (s := Rows.OpenSpec.upto Rows.spanPairsSpec) (k := Rows.uptoSmall) rfl own_spanPairs started (by kernel_rfl) Try.func5
    (OpenSpec.witness (enc := enc) (C := Try.checked) (s := Rows.OpenSpec.upto Rows.spanPairsSpec) (k := Rows.uptoSmall) rfl false ⟨#[], #[.agg #[.string .empty, .string .empty], .agg #[.string .empty, .string .empty]], []⟩ 12 (by kernel_rfl) (by kernel_rfl) (by kernel_rfl)
      (x := ([.agg [.lit (.string []), .lit (.string [])], .agg [.lit (.string []), .lit (.string [])]], [], [])) (by kernel_rfl) rfl (by kernel_rfl)) ?_
  intro W base args ds gs before hval hW _ hk _
  have hb : Rows.uptoBulkAll (ds ++ gs) ≤ 1048576 := of_decide_eq_true hk
  exact law_contract (s := Rows.spanPairsSpec) (bulk_spanPairs H) law10_SpanPairs_sok (by kernel_rfl) rfl rfl (by kernel_rfl : Try.prog.underlying 4 = some .bool) laid_spanPairs (by kernel_rfl) hval hW
    (fun ds h => by match ds, h with | [d1, d2], _ => rfl) (fun x hw hx => plain_spanPairs x hw (Nat.le_trans hx hb))
theorem proved_spanPairs : Rows.SpanPairsUptoSaid :=
  OpenClaim.holds_of_cond 5 Try.f5 rfl rfl rfl rfl rfl rfl rfl ⟨rfl, rfl, rfl, rfl, rfl⟩ rfl rfl rfl rfl rfl (by kernel_rfl) Try.func5 (by kernel_rfl)
    (of_decide_eq_true (by kernel_rfl)) (by unfold Func.isWrapper; first | (rw [if_pos (by decide +kernel)]; kernel_rfl) | (rw [if_neg (by decide +kernel)]; exact ⟨rfl, rfl⟩))
    (fun os started H enc _ F => lifted_spanPairs os started H enc F)
end Go.Proofs.Ytlgfmkccnljhoaa.gg
