/- OracleRises: 'the theorem of fencing', for every input of bulk at most 1048576. No condition beside the statement's own. -/
import Derived.Test.YtlmfnbcnfhiheaaRows
import Derived.Test.YtlmfnbcnfhiheaaW1
import Derived.ProofKit
import Derived.OpenShut
import Derived.JoinedCond
namespace Go.Proofs.Ytlmfnbcnfhiheaa.gg
open Go Go.GG Go.Proofs Go.ChangeShapes Go.WideShapes Go.ChangeAt Go.RowKit
theorem own_oracleRises : ownKnob Try.prog.godebug = none := by kernel_rfl
theorem laid_oracleRises : laidOutB Try.prog = true := by kernel_rfl
def bulk_oracleRises (H : Type) : Bulk H where
  one := Rows.uptoBulk
  all := Rows.uptoBulkAll
  nil := by simp [Rows.uptoBulkAll]
  cons := fun d r => by simp [Rows.uptoBulkAll]
  lit := fun l => by cases l <;> simp [Rows.uptoBulk]
  str := fun l => by simp [Rows.uptoBulk]
  none := by simp [Rows.uptoBulk]
  slice := fun e r => by simp [Rows.uptoBulk]
  agg := fun p => by simp [Rows.uptoBulk]
theorem plain_oracleRises : ∀ x : RD PK.den ([.agg (.pair (.int .u64) (.pair (.int .u64) .bool)), .imm (.slice (.pair (.int .i64) (.int .i64)))] : List PK), wfAll ([.agg (.pair (.int .u64) (.pair (.int .u64) .bool)), .imm (.slice (.pair (.int .i64) (.int .i64)))] : List PK) x → bulkAll ([.agg (.pair (.int .u64) (.pair (.int .u64) .bool)), .imm (.slice (.pair (.int .i64) (.int .i64)))] : List PK) x ≤ 1048576 → ∃ k, law18_OracleRises_spec.F k x = some true := fun x hw hb => law_OracleRises x.1 x.2 hw.1.1.1 hw.1.1.2 hw.1.2.1.1 hw.1.2.1.2 (by
    have h1 := bulk_slice (t := .pair (.int .i64) (.int .i64)) x.2
    have h3 : (1 + (1 + 1)) + ((T.slice (.pair (.int .i64) (.int .i64))).bulk x.2 + 0) ≤ 1048576 := hb
    omega)
set_option maxRecDepth 100000 in
theorem lifted_oracleRises (os : Os) (started : os.Started) (H : Type) (enc : TypeId × Value → H) (F : Stop.Interp) :
    ReturnsInHanded {} Try.checked os 3 .any ((Rows.OpenSpec.upto Rows.oracleRisesSpec).pre6 enc Try.prog Try.f3 Rows.oracleRisesUptoRow.domain false) (((Rows.OpenSpec.upto Rows.oracleRisesSpec).at F).post enc Try.prog Try.f3 false true false false) := by
  refine returnsInHanded_of_cond (C := Try.checked) (s := Rows.OpenSpec.upto Rows.oracleRisesSpec) (k := Rows.uptoSmall) rfl own_oracleRises started (by kernel_rfl) Try.func3
    (OpenSpec.witness (enc := enc) (C := Try.checked) (s := Rows.OpenSpec.upto Rows.oracleRisesSpec) (k := Rows.uptoSmall) rfl false ⟨#[], #[.agg #[.int .u64 0, .int .u64 0, .bool false], .slice none 0 0], []⟩ 12 (by kernel_rfl) (by kernel_rfl) (by kernel_rfl)
      (x := ([.agg [.lit (.int .u64 0), .lit (.int .u64 0), .lit (.bool false)], .nil], [], [])) (by kernel_rfl) rfl (by kernel_rfl)) ?_
  intro W base args ds gs before hval hW _ hk _
  have hb : Rows.uptoBulkAll (ds ++ gs) ≤ 1048576 := of_decide_eq_true hk
  exact law_contract (s := Rows.oracleRisesSpec) (bulk_oracleRises H) law18_OracleRises_sok (by kernel_rfl) rfl rfl (by kernel_rfl : Try.prog.underlying 4 = some .bool) laid_oracleRises (by kernel_rfl) hval hW
    (fun ds h => by match ds, h with | [d1, d2], _ => rfl) (fun x hw hx => plain_oracleRises x hw (Nat.le_trans hx hb))
theorem proved_oracleRises : Rows.OracleRisesUptoSaid :=
  OpenClaim.holds_of_cond 3 Try.f3 rfl rfl rfl rfl rfl rfl rfl ⟨rfl, rfl, rfl, rfl, rfl⟩ rfl rfl rfl rfl rfl (by kernel_rfl) Try.func3 (by kernel_rfl)
    (of_decide_eq_true (by kernel_rfl)) (by unfold Func.isWrapper; first | (rw [if_pos (by decide +kernel)]; kernel_rfl) | (rw [if_neg (by decide +kernel)]; exact ⟨rfl, rfl⟩))
    (fun os started H enc _ F => lifted_oracleRises os started H enc F)
end Go.Proofs.Ytlmfnbcnfhiheaa.gg
