/- ConfCaught: 'who has caught up', for every input of bulk at most 1048576. No condition beside the statement's own. -/
import Derived.Test.YtnpfogjbebdlfaaRows
import Derived.Test.YtnpfogjbebdlfaaP
import Derived.Test.YtnpfogjbebdlfaaX
import Derived.ProofKit
import Derived.OpenShut
import Derived.JoinedCond
namespace Go.Proofs.Ytnpfogjbebdlfaa.gg
open Go Go.GG Go.Proofs Go.ChangeShapes Go.WideShapes Go.ChangeAt Go.RowKit
theorem own_confCaught : ownKnob Try.prog.godebug = none := by kernel_rfl
theorem laid_confCaught : laidOutB Try.prog = true := by kernel_rfl
def bulk_confCaught (H : Type) : Bulk H where
  one := Rows.uptoBulk
  all := Rows.uptoBulkAll
  nil := by simp [Rows.uptoBulkAll]
  cons := fun d r => by simp [Rows.uptoBulkAll]
  lit := fun l => by cases l <;> simp [Rows.uptoBulk]
  str := fun l => by simp [Rows.uptoBulk]
  none := by simp [Rows.uptoBulk]
  slice := fun e r => by simp [Rows.uptoBulk]
  agg := fun p => by simp [Rows.uptoBulk]
theorem plain_confCaught : ∀ x : RD PK.den ([.imm (.slice (.pair (.int .i64) (.pair (.int .u64) (.int .u64)))), .imm (.int .i64), .agg (.pair (.int .u64) (.int .u64))] : List PK), wfAll ([.imm (.slice (.pair (.int .i64) (.pair (.int .u64) (.int .u64)))), .imm (.int .i64), .agg (.pair (.int .u64) (.int .u64))] : List PK) x → bulkAll ([.imm (.slice (.pair (.int .i64) (.pair (.int .u64) (.int .u64)))), .imm (.int .i64), .agg (.pair (.int .u64) (.int .u64))] : List PK) x ≤ 1048576 → ∃ k, law15_ConfCaught_spec.F k x = some true := fun x hw hb => by
  have h1 := bulk_slice (t := .pair (.int .i64) (.pair (.int .u64) (.int .u64))) x.1
  have h3 : (T.slice (.pair (.int .i64) (.pair (.int .u64) (.int .u64)))).bulk x.1 + (1 + ((1 + 1) + 0)) ≤ 1048576 := hb
  exact law_ConfCaught x.1 x.2.1 x.2.2 (by omega) (fun p hp => by
    have h := (hw.1 p hp).2.2
    exact ⟨h.1, Int.lt_add_one_of_le h.2⟩) ⟨hw.2.2.1.2.1, Int.lt_add_one_of_le hw.2.2.1.2.2⟩
set_option maxRecDepth 100000 in
theorem lifted_confCaught (os : Os) (started : os.Started) (H : Type) (enc : TypeId × Value → H) (F : Stop.Interp) :
    ReturnsInHanded {} Try.checked os 5 .any ((Rows.OpenSpec.upto Rows.confCaughtSpec).pre6 enc Try.prog Try.f5 Rows.confCaughtUptoRow.domain false) (((Rows.OpenSpec.upto Rows.confCaughtSpec).at F).post enc Try.prog Try.f5 false true false false) := by
  refine returnsInHanded_of_cond (C := Try.checked) (s := Rows.OpenSpec.upto Rows.confCaughtSpec) (k := Rows.uptoSmall) rfl own_confCaught started (by kernel_rfl) Try.func5
    (OpenSpec.witness (enc := enc) (C := Try.checked) (s := Rows.OpenSpec.upto Rows.confCaughtSpec) (k := Rows.uptoSmall) rfl false ⟨#[], #[.slice none 0 0, .int .i64 0, .agg #[.int .u64 0, .int .u64 0]], []⟩ 12 (by kernel_rfl) (by kernel_rfl) (by kernel_rfl)
      (x := ([.nil, .lit (.int .i64 0), .agg [.lit (.int .u64 0), .lit (.int .u64 0)]], [], [])) (by kernel_rfl) rfl (by kernel_rfl)) ?_
  intro W base args ds gs before hval hW _ hk _
  have hb : Rows.uptoBulkAll (ds ++ gs) ≤ 1048576 := of_decide_eq_true hk
  exact law_contract (s := Rows.confCaughtSpec) (bulk_confCaught H) law15_ConfCaught_sok (by kernel_rfl) rfl rfl (by kernel_rfl : Try.prog.underlying 4 = some .bool) laid_confCaught (by kernel_rfl) hval hW
    (fun ds h => by match ds, h with | [d1, d2, d3], _ => rfl) (fun x hw hx => plain_confCaught x hw (Nat.le_trans hx hb))
theorem proved_confCaught : Rows.ConfCaughtUptoSaid :=
  OpenClaim.holds_of_cond 5 Try.f5 rfl rfl rfl rfl rfl rfl rfl ⟨rfl, rfl, rfl, rfl, rfl⟩ rfl rfl rfl rfl rfl (by kernel_rfl) Try.func5 (by kernel_rfl)
    (of_decide_eq_true (by kernel_rfl)) (by unfold Func.isWrapper; first | (rw [if_pos (by decide +kernel)]; kernel_rfl) | (rw [if_neg (by decide +kernel)]; exact ⟨rfl, rfl⟩))
    (fun os started H enc _ F => lifted_confCaught os started H enc F)
end Go.Proofs.Ytnpfogjbebdlfaa.gg
