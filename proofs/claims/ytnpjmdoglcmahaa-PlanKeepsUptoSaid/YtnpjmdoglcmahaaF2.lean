/- PlanKeeps: 'the theorem of plans', for every input of bulk at most 1048576. No condition beside the statement's own. -/
import Derived.Test.YtnpjmdoglcmahaaRows
import Derived.Test.YtnpjmdoglcmahaaP
import Derived.Test.YtnpjmdoglcmahaaK
import Derived.ProofKit
import Derived.OpenShut
import Derived.JoinedCond
namespace Go.Proofs.Ytnpjmdoglcmahaa.gg
open Go Go.GG Go.Proofs Go.ChangeShapes Go.WideShapes Go.ChangeAt Go.RowKit
theorem own_planKeeps : ownKnob Try.prog.godebug = none := by kernel_rfl
theorem laid_planKeeps : laidOutB Try.prog = true := by kernel_rfl
def bulk_planKeeps (H : Type) : Bulk H where
  one := Rows.uptoBulk
  all := Rows.uptoBulkAll
  nil := by simp [Rows.uptoBulkAll]
  cons := fun d r => by simp [Rows.uptoBulkAll]
  lit := fun l => by cases l <;> simp [Rows.uptoBulk]
  str := fun l => by simp [Rows.uptoBulk]
  none := by simp [Rows.uptoBulk]
  slice := fun e r => by simp [Rows.uptoBulk]
  agg := fun p => by simp [Rows.uptoBulk]
theorem plain_planKeeps : ∀ x : RD PK.den ([.imm (.slice (.pair (.pair .str .str) (.pair (.int .i64) (.int .u64)))), .imm (.slice (.pair (.int .i64) (.pair (.int .u64) (.pair .str (.pair (.int .i64) (.int .i64)))))), .imm .str] : List PK), wfAll ([.imm (.slice (.pair (.pair .str .str) (.pair (.int .i64) (.int .u64)))), .imm (.slice (.pair (.int .i64) (.pair (.int .u64) (.pair .str (.pair (.int .i64) (.int .i64)))))), .imm .str] : List PK) x → bulkAll ([.imm (.slice (.pair (.pair .str .str) (.pair (.int .i64) (.int .u64)))), .imm (.slice (.pair (.int .i64) (.pair (.int .u64) (.pair .str (.pair (.int .i64) (.int .i64)))))), .imm .str] : List PK) x ≤ 1048576 → ∃ k, law21_PlanKeeps_spec.F k x = some true := fun x hw hb => by
  have h1 := bulk_slice (t := .pair (.pair .str .str) (.pair (.int .i64) (.int .u64))) x.1
  have h3 : (T.slice (.pair (.pair .str .str) (.pair (.int .i64) (.int .u64)))).bulk x.1 + ((T.slice (.pair (.int .i64) (.pair (.int .u64) (.pair .str (.pair (.int .i64) (.int .i64)))))).bulk x.2.1 + (T.bulk .str x.2.2 + 0)) ≤ 1048576 := hb
  exact law_PlanKeeps x.1 x.2.1 x.2.2 (by omega)
set_option maxRecDepth 100000 in
theorem lifted_planKeeps (os : Os) (started : os.Started) (H : Type) (enc : TypeId × Value → H) (F : Stop.Interp) :
    ReturnsInHanded {} Try.checked os 5 .any ((Rows.OpenSpec.upto Rows.planKeepsSpec).pre6 enc Try.prog Try.f5 Rows.planKeepsUptoRow.domain false) (((Rows.OpenSpec.upto Rows.planKeepsSpec).at F).post enc Try.prog Try.f5 false true false false) := by
  refine returnsInHanded_of_cond (C := Try.checked) (s := Rows.OpenSpec.upto Rows.planKeepsSpec) (k := Rows.uptoSmall) rfl own_planKeeps started (by kernel_rfl) Try.func5
    (OpenSpec.witness (enc := enc) (C := Try.checked) (s := Rows.OpenSpec.upto Rows.planKeepsSpec) (k := Rows.uptoSmall) rfl false ⟨#[], #[.slice none 0 0, .slice none 0 0, .string .empty], []⟩ 12 (by kernel_rfl) (by kernel_rfl) (by kernel_rfl)
      (x := ([.nil, .nil, .lit (.string [])], [], [])) (by kernel_rfl) rfl (by kernel_rfl)) ?_
  intro W base args ds gs before hval hW _ hk _
  have hb : Rows.uptoBulkAll (ds ++ gs) ≤ 1048576 := of_decide_eq_true hk
  exact law_contract (s := Rows.planKeepsSpec) (bulk_planKeeps H) law21_PlanKeeps_sok (by kernel_rfl) rfl rfl (by kernel_rfl : Try.prog.underlying 4 = some .bool) laid_planKeeps (by kernel_rfl) hval hW
    (fun ds h => by match ds, h with | [d1, d2, d3], _ => rfl) (fun x hw hx => plain_planKeeps x hw (Nat.le_trans hx hb))
theorem proved_planKeeps : Rows.PlanKeepsUptoSaid :=
  OpenClaim.holds_of_cond 5 Try.f5 rfl rfl rfl rfl rfl rfl rfl ⟨rfl, rfl, rfl, rfl, rfl⟩ rfl rfl rfl rfl rfl (by kernel_rfl) Try.func5 (by kernel_rfl)
    (of_decide_eq_true (by kernel_rfl)) (by unfold Func.isWrapper; first | (rw [if_pos (by decide +kernel)]; kernel_rfl) | (rw [if_neg (by decide +kernel)]; exact ⟨rfl, rfl⟩))
    (fun os started H enc _ F => lifted_planKeeps os started H enc F)
end Go.Proofs.Ytnpjmdoglcmahaa.gg
