/- TxnDecides: 'the theorem of one decision', for every input of bulk at most 1048576. No condition beside the statement's own. -/
import Derived.Test.YtpnpbhjdjddaiaaRows
import Derived.Test.YtpnpbhjdjddaiaaP
import Derived.Test.YtpnpbhjdjddaiaaX
import Derived.ProofKit
import Derived.OpenShut
import Derived.JoinedCond
namespace Go.Proofs.Ytpnpbhjdjddaiaa.gg
open Go Go.GG Go.Proofs Go.ChangeShapes Go.WideShapes Go.ChangeAt Go.RowKit
theorem own_txnDecides : ownKnob Try.prog.godebug = none := by kernel_rfl
theorem laid_txnDecides : laidOutB Try.prog = true := by kernel_rfl
def bulk_txnDecides (H : Type) : Bulk H where
  one := Rows.uptoBulk
  all := Rows.uptoBulkAll
  nil := by simp [Rows.uptoBulkAll]
  cons := fun d r => by simp [Rows.uptoBulkAll]
  lit := fun l => by cases l <;> simp [Rows.uptoBulk]
  str := fun l => by simp [Rows.uptoBulk]
  none := by simp [Rows.uptoBulk]
  slice := fun e r => by simp [Rows.uptoBulk]
  agg := fun p => by simp [Rows.uptoBulk]
theorem plain_txnDecides : ∀ x : RD PK.den ([.agg (.pair (.pair (.int .i64) (.int .u64)) (.pair (.int .i64) (.pair (.slice .str) (.pair (.int .u64) (.pair (.int .i64) (.pair (.slice (.int .i64)) (.pair (.int .i64) (.pair (.slice (.int .i64)) (.pair (.slice (.int .i64)) (.int .i64)))))))))), .imm (.slice (.pair (.int .i64) (.pair (.int .i64) (.pair (.int .i64) (.int .u64)))))] : List PK), wfAll ([.agg (.pair (.pair (.int .i64) (.int .u64)) (.pair (.int .i64) (.pair (.slice .str) (.pair (.int .u64) (.pair (.int .i64) (.pair (.slice (.int .i64)) (.pair (.int .i64) (.pair (.slice (.int .i64)) (.pair (.slice (.int .i64)) (.int .i64)))))))))), .imm (.slice (.pair (.int .i64) (.pair (.int .i64) (.pair (.int .i64) (.int .u64)))))] : List PK) x → bulkAll ([.agg (.pair (.pair (.int .i64) (.int .u64)) (.pair (.int .i64) (.pair (.slice .str) (.pair (.int .u64) (.pair (.int .i64) (.pair (.slice (.int .i64)) (.pair (.int .i64) (.pair (.slice (.int .i64)) (.pair (.slice (.int .i64)) (.int .i64)))))))))), .imm (.slice (.pair (.int .i64) (.pair (.int .i64) (.pair (.int .i64) (.int .u64)))))] : List PK) x ≤ 1048576 → ∃ k, law20_TxnDecides_spec.F k x = some true := fun x hw hb => law_TxnDecides x.1 x.2
set_option maxRecDepth 100000 in
theorem lifted_txnDecides (os : Os) (started : os.Started) (H : Type) (enc : TypeId × Value → H) (F : Stop.Interp) :
    ReturnsInHanded {} Try.checked os 5 .any ((Rows.OpenSpec.upto Rows.txnDecidesSpec).pre6 enc Try.prog Try.f5 Rows.txnDecidesUptoRow.domain false) (((Rows.OpenSpec.upto Rows.txnDecidesSpec).at F).post enc Try.prog Try.f5 false true false false) := by
  refine returnsInHanded_of_cond (C := Try.checked) (s := Rows.OpenSpec.upto Rows.txnDecidesSpec) (k := Rows.uptoSmall) rfl own_txnDecides started (by kernel_rfl) Try.func5
    (OpenSpec.witness (enc := enc) (C := Try.checked) (s := Rows.OpenSpec.upto Rows.txnDecidesSpec) (k := Rows.uptoSmall) rfl false ⟨#[], #[.agg #[.int .i64 0, .int .u64 0, .int .i64 0, .slice none 0 0, .int .u64 0, .int .i64 0, .slice none 0 0, .int .i64 0, .slice none 0 0, .slice none 0 0, .int .i64 0], .slice none 0 0], []⟩ 12 (by kernel_rfl) (by kernel_rfl) (by kernel_rfl)
      (x := ([.agg [.agg [.lit (.int .i64 0), .lit (.int .u64 0)], .lit (.int .i64 0), .nil, .lit (.int .u64 0), .lit (.int .i64 0), .nil, .lit (.int .i64 0), .nil, .nil, .lit (.int .i64 0)], .nil], [], [])) (by kernel_rfl) rfl (by kernel_rfl)) ?_
  intro W base args ds gs before hval hW _ hk _
  have hb : Rows.uptoBulkAll (ds ++ gs) ≤ 1048576 := of_decide_eq_true hk
  exact law_contract (s := Rows.txnDecidesSpec) (bulk_txnDecides H) law20_TxnDecides_sok (by kernel_rfl) rfl rfl (by kernel_rfl : Try.prog.underlying 4 = some .bool) laid_txnDecides (by kernel_rfl) hval hW
    (fun ds h => by match ds, h with | [d1, d2], _ => rfl) (fun x hw hx => plain_txnDecides x hw (Nat.le_trans hx hb))
theorem proved_txnDecides : Rows.TxnDecidesUptoSaid :=
  OpenClaim.holds_of_cond 5 Try.f5 rfl rfl rfl rfl rfl rfl rfl ⟨rfl, rfl, rfl, rfl, rfl⟩ rfl rfl rfl rfl rfl (by kernel_rfl) Try.func5 (by kernel_rfl)
    (of_decide_eq_true (by kernel_rfl)) (by unfold Func.isWrapper; first | (rw [if_pos (by decide +kernel)]; kernel_rfl) | (rw [if_neg (by decide +kernel)]; exact ⟨rfl, rfl⟩))
    (fun os started H enc _ F => lifted_txnDecides os started H enc F)
end Go.Proofs.Ytpnpbhjdjddaiaa.gg
