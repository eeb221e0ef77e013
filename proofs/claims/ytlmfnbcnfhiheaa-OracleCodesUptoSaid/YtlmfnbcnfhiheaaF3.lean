/- OracleCodes: 'a window's bytes', for every input of bulk at most 1048576. No condition beside the statement's own. -/
import Derived.Test.YtlmfnbcnfhiheaaRows
import Derived.Test.YtlmfnbcnfhiheaaP
import Derived.Test.YtlmfnbcnfhiheaaX
import Derived.ProofKit
import Derived.OpenShut
import Derived.JoinedCond
namespace Go.Proofs.Ytlmfnbcnfhiheaa.gg
open Go Go.GG Go.Proofs Go.ChangeShapes Go.WideShapes Go.ChangeAt Go.RowKit
theorem own_oracleCodes : ownKnob Try.prog.godebug = none := by kernel_rfl
theorem laid_oracleCodes : laidOutB Try.prog = true := by kernel_rfl
def bulk_oracleCodes (H : Type) : Bulk H where
  one := Rows.uptoBulk
  all := Rows.uptoBulkAll
  nil := by simp [Rows.uptoBulkAll]
  cons := fun d r => by simp [Rows.uptoBulkAll]
  lit := fun l => by cases l <;> simp [Rows.uptoBulk]
  str := fun l => by simp [Rows.uptoBulk]
  none := by simp [Rows.uptoBulk]
  slice := fun e r => by simp [Rows.uptoBulk]
  agg := fun p => by simp [Rows.uptoBulk]
theorem plain_oracleCodes : ∀ x : RD PK.den ([.agg (.pair (.int .u64) (.pair (.int .u64) .bool))] : List PK), wfAll ([.agg (.pair (.int .u64) (.pair (.int .u64) .bool))] : List PK) x → bulkAll ([.agg (.pair (.int .u64) (.pair (.int .u64) .bool))] : List PK) x ≤ 1048576 → ∃ k, law18_OracleCodes_spec.F k x = some true := fun x hw hb => law_OracleCodes x ⟨hw.1.1.1, Int.lt_add_one_of_le hw.1.1.2, hw.1.2.1.1, Int.lt_add_one_of_le hw.1.2.1.2⟩
set_option maxRecDepth 100000 in
theorem lifted_oracleCodes (os : Os) (started : os.Started) (H : Type) (enc : TypeId × Value → H) (F : Stop.Interp) :
    ReturnsInHanded {} Try.checked os 5 .any ((Rows.OpenSpec.upto Rows.oracleCodesSpec).pre6 enc Try.prog Try.f5 Rows.oracleCodesUptoRow.domain false) (((Rows.OpenSpec.upto Rows.oracleCodesSpec).at F).post enc Try.prog Try.f5 false true false false) := by
  refine returnsInHanded_of_cond (C := Try.checked) (s := Rows.OpenSpec.upto Rows.oracleCodesSpec) (k := Rows.uptoSmall) rfl own_oracleCodes started (by kernel_rfl) Try.func5
    (OpenSpec.witness (enc := enc) (C := Try.checked) (s := Rows.OpenSpec.upto Rows.oracleCodesSpec) (k := Rows.uptoSmall) rfl false ⟨#[], #[.agg #[.int .u64 0, .int .u64 0, .bool false]], []⟩ 12 (by kernel_rfl) (by kernel_rfl) (by kernel_rfl)
      (x := ([.agg [.lit (.int .u64 0), .lit (.int .u64 0), .lit (.bool false)]], [], [])) (by kernel_rfl) rfl (by kernel_rfl)) ?_
  intro W base args ds gs before hval hW _ hk _
  have hb : Rows.uptoBulkAll (ds ++ gs) ≤ 1048576 := of_decide_eq_true hk
  exact law_contract (s := Rows.oracleCodesSpec) (bulk_oracleCodes H) law18_OracleCodes_sok (by kernel_rfl) rfl rfl (by kernel_rfl : Try.prog.underlying 4 = some .bool) laid_oracleCodes (by kernel_rfl) hval hW
    (fun ds h => by match ds, h with | [d], _ => rfl) (fun x hw hx => plain_oracleCodes x hw (Nat.le_trans hx hb))
theorem proved_oracleCodes : Rows.OracleCodesUptoSaid :=
  OpenClaim.holds_of_cond 5 Try.f5 rfl rfl rfl rfl rfl rfl rfl ⟨rfl, rfl, rfl, rfl, rfl⟩ rfl rfl rfl rfl rfl (by kernel_rfl) Try.func5 (by kernel_rfl)
    (of_decide_eq_true (by kernel_rfl)) (by unfold Func.isWrapper; first | (rw [if_pos (by decide +kernel)]; kernel_rfl) | (rw [if_neg (by decide +kernel)]; exact ⟨rfl, rfl⟩))
    (fun os started H enc _ F => lifted_oracleCodes os started H enc F)
end Go.Proofs.Ytlmfnbcnfhiheaa.gg
