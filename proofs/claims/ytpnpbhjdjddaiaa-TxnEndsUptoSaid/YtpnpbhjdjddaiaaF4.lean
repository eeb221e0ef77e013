/- TxnEnds: 'it comes to its end', for every input of bulk at most 1048576. No condition beside the statement's own. -/
import Derived.Test.YtpnpbhjdjddaiaaRows
import Derived.Test.YtpnpbhjdjddaiaaP
import Derived.Test.YtpnpbhjdjddaiaaY
import Derived.ProofKit
import Derived.OpenShut
import Derived.JoinedCond
namespace Go.Proofs.Ytpnpbhjdjddaiaa.gg
open Go Go.GG Go.Proofs Go.ChangeShapes Go.WideShapes Go.ChangeAt Go.RowKit
theorem own_txnEnds : ownKnob Try.prog.godebug = none := by kernel_rfl
theorem laid_txnEnds : laidOutB Try.prog = true := by kernel_rfl
def bulk_txnEnds (H : Type) : Bulk H where
  one := Rows.uptoBulk
  all := Rows.uptoBulkAll
  nil := by simp [Rows.uptoBulkAll]
  cons := fun d r => by simp [Rows.uptoBulkAll]
  lit := fun l => by cases l <;> simp [Rows.uptoBulk]
  str := fun l => by simp [Rows.uptoBulk]
  none := by simp [Rows.uptoBulk]
  slice := fun e r => by simp [Rows.uptoBulk]
  agg := fun p => by simp [Rows.uptoBulk]
theorem plain_txnEnds : ∀ x : RD PK.den ([.agg (.pair (.int .i64) (.int .u64)), .agg (.pair (.int .i64) (.pair (.slice .str) (.pair (.int .u64) (.int .i64)))), .agg (.pair (.int .u16) (.int .u16))] : List PK), wfAll ([.agg (.pair (.int .i64) (.int .u64)), .agg (.pair (.int .i64) (.pair (.slice .str) (.pair (.int .u64) (.int .i64)))), .agg (.pair (.int .u16) (.int .u16))] : List PK) x → bulkAll ([.agg (.pair (.int .i64) (.int .u64)), .agg (.pair (.int .i64) (.pair (.slice .str) (.pair (.int .u64) (.int .i64)))), .agg (.pair (.int .u16) (.int .u16))] : List PK) x ≤ 1048576 → ∃ k, law20_TxnEnds_spec.F k x = some true := fun x hw hb => by
  have h1 := bulk_slice (t := .str) x.2.1.2.1
  have h3 : (1 + 1) + ((1 + ((T.slice .str).bulk x.2.1.2.1 + (1 + 1))) + ((1 + 1) + 0)) ≤ 1048576 := hb
  exact law_TxnEnds x.1 x.2.1 x.2.2 (by omega) ⟨hw.2.2.1.1.1, Int.lt_add_one_of_le hw.2.2.1.1.2⟩ ⟨hw.2.2.1.2.1, Int.lt_add_one_of_le hw.2.2.1.2.2⟩
set_option maxRecDepth 100000 in
theorem lifted_txnEnds (os : Os) (started : os.Started) (H : Type) (enc : TypeId × Value → H) (F : Stop.Interp) :
    ReturnsInHanded {} Try.checked os 6 .any ((Rows.OpenSpec.upto Rows.txnEndsSpec).pre6 enc Try.prog Try.f6 Rows.txnEndsUptoRow.domain false) (((Rows.OpenSpec.upto Rows.txnEndsSpec).at F).post enc Try.prog Try.f6 false true false false) := by
  refine returnsInHanded_of_cond (C := Try.checked) (s := Rows.OpenSpec.upto Rows.txnEndsSpec) (k := Rows.uptoSmall) rfl own_txnEnds started (by kernel_rfl) Try.func6
    (OpenSpec.witness (enc := enc) (C := Try.checked) (s := Rows.OpenSpec.upto Rows.txnEndsSpec) (k := Rows.uptoSmall) rfl false ⟨#[], #[.agg #[.int .i64 0, .int .u64 0], .agg #[.int .i64 0, .slice none 0 0, .int .u64 0, .int .i64 0], .agg #[.int .u16 0, .int .u16 0]], []⟩ 12 (by kernel_rfl) (by kernel_rfl) (by kernel_rfl)
      (x := ([.agg [.lit (.int .i64 0), .lit (.int .u64 0)], .agg [.lit (.int .i64 0), .nil, .lit (.int .u64 0), .lit (.int .i64 0)], .agg [.lit (.int .u16 0), .lit (.int .u16 0)]], [], [])) (by kernel_rfl) rfl (by kernel_rfl)) ?_
  intro W base args ds gs before hval hW _ hk _
  have hb : Rows.uptoBulkAll (ds ++ gs) ≤ 1048576 := of_decide_eq_true hk
  exact law_contract (s := Rows.txnEndsSpec) (bulk_txnEnds H) law20_TxnEnds_sok (by kernel_rfl) rfl rfl (by kernel_rfl : Try.prog.underlying 4 = some .bool) laid_txnEnds (by kernel_rfl) hval hW
    (fun ds h => by match ds, h with | [d1, d2, d3], _ => rfl) (fun x hw hx => plain_txnEnds x hw (Nat.le_trans hx hb))
theorem proved_txnEnds : Rows.TxnEndsUptoSaid :=
  OpenClaim.holds_of_cond 6 Try.f6 rfl rfl rfl rfl rfl rfl rfl ⟨rfl, rfl, rfl, rfl, rfl⟩ rfl rfl rfl rfl rfl (by kernel_rfl) Try.func6 (by kernel_rfl)
    (of_decide_eq_true (by kernel_rfl)) (by unfold Func.isWrapper; first | (rw [if_pos (by decide +kernel)]; kernel_rfl) | (rw [if_neg (by decide +kernel)]; exact ⟨rfl, rfl⟩))
    (fun os started H enc _ F => lifted_txnEnds os started H enc F)
end Go.Proofs.Ytpnpbhjdjddaiaa.gg
