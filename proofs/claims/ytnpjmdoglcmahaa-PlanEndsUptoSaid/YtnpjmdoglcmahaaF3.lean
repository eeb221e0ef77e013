/- PlanEnds: 'a plan comes to its end', for every input of bulk at most 1048576. No condition beside the statement's own. -/
import Derived.Test.YtnpjmdoglcmahaaRows
import Derived.Test.YtnpjmdoglcmahaaP
import Derived.Test.YtnpjmdoglcmahaaE
import Derived.ProofKit
import Derived.OpenShut
import Derived.JoinedCond
namespace Go.Proofs.Ytnpjmdoglcmahaa.gg
open Go Go.GG Go.Proofs Go.ChangeShapes Go.WideShapes Go.ChangeAt Go.RowKit
theorem own_planEnds : ownKnob Try.prog.godebug = none := by kernel_rfl
theorem laid_planEnds : laidOutB Try.prog = true := by kernel_rfl
def bulk_planEnds (H : Type) : Bulk H where
  one := Rows.uptoBulk
  all := Rows.uptoBulkAll
  nil := by simp [Rows.uptoBulkAll]
  cons := fun d r => by simp [Rows.uptoBulkAll]
  lit := fun l => by cases l <;> simp [Rows.uptoBulk]
  str := fun l => by simp [Rows.uptoBulk]
  none := by simp [Rows.uptoBulk]
  slice := fun e r => by simp [Rows.uptoBulk]
  agg := fun p => by simp [Rows.uptoBulk]
theorem plain_planEnds : ∀ x : RD PK.den ([.imm (.slice (.pair (.pair .str .str) (.pair (.int .i64) (.int .u64)))), .imm .str, .agg (.pair (.int .i64) (.int .i64))] : List PK), wfAll ([.imm (.slice (.pair (.pair .str .str) (.pair (.int .i64) (.int .u64)))), .imm .str, .agg (.pair (.int .i64) (.int .i64))] : List PK) x → bulkAll ([.imm (.slice (.pair (.pair .str .str) (.pair (.int .i64) (.int .u64)))), .imm .str, .agg (.pair (.int .i64) (.int .i64))] : List PK) x ≤ 1048576 → ∃ k, law21_PlanEnds_spec.F k x = some true := fun x hw hb => law_PlanEnds x.1 x.2.1 x.2.2
set_option maxRecDepth 100000 in
theorem lifted_planEnds (os : Os) (started : os.Started) (H : Type) (enc : TypeId × Value → H) (F : Stop.Interp) :
    ReturnsInHanded {} Try.checked os 3 .any ((Rows.OpenSpec.upto Rows.planEndsSpec).pre6 enc Try.prog Try.f3 Rows.planEndsUptoRow.domain false) (((Rows.OpenSpec.upto Rows.planEndsSpec).at F).post enc Try.prog Try.f3 false true false false) := by
  refine returnsInHanded_of_cond (C := Try.checked) (s := Rows.OpenSpec.upto Rows.planEndsSpec) (k := Rows.uptoSmall) rfl own_planEnds started (by kernel_rfl) Try.func3
    (OpenSpec.witness (enc := enc) (C := Try.checked) (s := Rows.OpenSpec.upto Rows.planEndsSpec) (k := Rows.uptoSmall) rfl false ⟨#[], #[.slice none 0 0, .string .empty, .agg #[.int .i64 0, .int .i64 0]], []⟩ 12 (by kernel_rfl) (by kernel_rfl) (by kernel_rfl)
      (x := ([.nil, .lit (.string []), .agg [.lit (.int .i64 0), .lit (.int .i64 0)]], [], [])) (by kernel_rfl) rfl (by kernel_rfl)) ?_
  intro W base args ds gs before hval hW _ hk _
  have hb : Rows.uptoBulkAll (ds ++ gs) ≤ 1048576 := of_decide_eq_true hk
  exact law_contract (s := Rows.planEndsSpec) (bulk_planEnds H) law21_PlanEnds_sok (by kernel_rfl) rfl rfl (by kernel_rfl : Try.prog.underlying 4 = some .bool) laid_planEnds (by kernel_rfl) hval hW
    (fun ds h => by match ds, h with | [d1, d2, d3], _ => rfl) (fun x hw hx => plain_planEnds x hw (Nat.le_trans hx hb))
theorem proved_planEnds : Rows.PlanEndsUptoSaid :=
  OpenClaim.holds_of_cond 3 Try.f3 rfl rfl rfl rfl rfl rfl rfl ⟨rfl, rfl, rfl, rfl, rfl⟩ rfl rfl rfl rfl rfl (by kernel_rfl) Try.func3 (by kernel_rfl)
    (of_decide_eq_true (by kernel_rfl)) (by unfold Func.isWrapper; first | (rw [if_pos (by decide +kernel)]; kernel_rfl) | (rw [if_neg (by decide +kernel)]; exact ⟨rfl, rfl⟩))
    (fun os started H enc _ F => lifted_planEnds os started H enc F)
end Go.Proofs.Ytnpjmdoglcmahaa.gg
