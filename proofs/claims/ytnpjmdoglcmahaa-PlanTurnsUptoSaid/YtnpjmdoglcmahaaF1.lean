/- PlanTurns: 'what comes of any turn', for every input of bulk at most 1048576. No condition beside the statement's own. -/
import Derived.Test.YtnpjmdoglcmahaaRows
import Derived.Test.YtnpjmdoglcmahaaP
import Derived.Test.YtnpjmdoglcmahaaX
import Derived.ProofKit
import Derived.OpenShut
import Derived.JoinedCond
namespace Go.Proofs.Ytnpjmdoglcmahaa.gg
open Go Go.GG Go.Proofs Go.ChangeShapes Go.WideShapes Go.ChangeAt Go.RowKit
theorem own_planTurns : ownKnob Try.prog.godebug = none := by kernel_rfl
theorem laid_planTurns : laidOutB Try.prog = true := by kernel_rfl
def bulk_planTurns (H : Type) : Bulk H where
  one := Rows.uptoBulk
  all := Rows.uptoBulkAll
  nil := by simp [Rows.uptoBulkAll]
  cons := fun d r => by simp [Rows.uptoBulkAll]
  lit := fun l => by cases l <;> simp [Rows.uptoBulk]
  str := fun l => by simp [Rows.uptoBulk]
  none := by simp [Rows.uptoBulk]
  slice := fun e r => by simp [Rows.uptoBulk]
  agg := fun p => by simp [Rows.uptoBulk]
theorem plain_planTurns : ∀ x : RD PK.den ([.imm (.slice (.pair (.pair .str .str) (.pair (.int .i64) (.int .u64)))), .imm (.slice (.pair (.int .u64) (.pair (.pair .str .str) (.pair (.int .i64) (.pair (.int .i64) (.int .i64)))))), .agg (.pair (.int .i64) (.pair (.int .u64) (.pair .str (.pair (.int .i64) (.int .i64)))))] : List PK), wfAll ([.imm (.slice (.pair (.pair .str .str) (.pair (.int .i64) (.int .u64)))), .imm (.slice (.pair (.int .u64) (.pair (.pair .str .str) (.pair (.int .i64) (.pair (.int .i64) (.int .i64)))))), .agg (.pair (.int .i64) (.pair (.int .u64) (.pair .str (.pair (.int .i64) (.int .i64)))))] : List PK) x → bulkAll ([.imm (.slice (.pair (.pair .str .str) (.pair (.int .i64) (.int .u64)))), .imm (.slice (.pair (.int .u64) (.pair (.pair .str .str) (.pair (.int .i64) (.pair (.int .i64) (.int .i64)))))), .agg (.pair (.int .i64) (.pair (.int .u64) (.pair .str (.pair (.int .i64) (.int .i64)))))] : List PK) x ≤ 1048576 → ∃ k, law21_PlanTurns_spec.F k x = some true := fun x hw hb => law_PlanTurns x.1 x.2.1 x.2.2
set_option maxRecDepth 100000 in
theorem lifted_planTurns (os : Os) (started : os.Started) (H : Type) (enc : TypeId × Value → H) (F : Stop.Interp) :
    ReturnsInHanded {} Try.checked os 4 .any ((Rows.OpenSpec.upto Rows.planTurnsSpec).pre6 enc Try.prog Try.f4 Rows.planTurnsUptoRow.domain false) (((Rows.OpenSpec.upto Rows.planTurnsSpec).at F).post enc Try.prog Try.f4 false true false false) := by
  refine returnsInHanded_of_cond (C := Try.checked) (s := Rows.OpenSpec.upto Rows.planTurnsSpec) (k := Rows.uptoSmall) rfl own_planTurns started (by kernel_rfl) Try.func4
    (OpenSpec.witness (enc := enc) (C := Try.checked) (s := Rows.OpenSpec.upto Rows.planTurnsSpec) (k := Rows.uptoSmall) rfl false ⟨#[], #[.slice none 0 0, .slice none 0 0, .agg #[.int .i64 0, .int .u64 0, .string .empty, .int .i64 0, .int .i64 0]], []⟩ 12 (by kernel_rfl) (by kernel_rfl) (by kernel_rfl)
      (x := ([.nil, .nil, .agg [.lit (.int .i64 0), .lit (.int .u64 0), .lit (.string []), .lit (.int .i64 0), .lit (.int .i64 0)]], [], [])) (by kernel_rfl) rfl (by kernel_rfl)) ?_
  intro W base args ds gs before hval hW _ hk _
  have hb : Rows.uptoBulkAll (ds ++ gs) ≤ 1048576 := of_decide_eq_true hk
  exact law_contract (s := Rows.planTurnsSpec) (bulk_planTurns H) law21_PlanTurns_sok (by kernel_rfl) rfl rfl (by kernel_rfl : Try.prog.underlying 4 = some .bool) laid_planTurns (by kernel_rfl) hval hW
    (fun ds h => by match ds, h with | [d1, d2, d3], _ => rfl) (fun x hw hx => plain_planTurns x hw (Nat.le_trans hx hb))
theorem proved_planTurns : Rows.PlanTurnsUptoSaid :=
  OpenClaim.holds_of_cond 4 Try.f4 rfl rfl rfl rfl rfl rfl rfl ⟨rfl, rfl, rfl, rfl, rfl⟩ rfl rfl rfl rfl rfl (by kernel_rfl) Try.func4 (by kernel_rfl)
    (of_decide_eq_true (by kernel_rfl)) (by unfold Func.isWrapper; first | (rw [if_pos (by decide +kernel)]; kernel_rfl) | (rw [if_neg (by decide +kernel)]; exact ⟨rfl, rfl⟩))
    (fun os started H enc _ F => lifted_planTurns os started H enc F)
end Go.Proofs.Ytnpjmdoglcmahaa.gg
