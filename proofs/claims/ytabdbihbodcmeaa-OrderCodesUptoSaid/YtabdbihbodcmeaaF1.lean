/- OrderCodes: 'any order's bytes', for every input of bulk at most 1048576. No condition beside the statement's own. -/
import Derived.Test.YtabdbihbodcmeaaRows
import Derived.Test.YtabdbihbodcmeaaP
import Derived.Test.YtabdbihbodcmeaaT
import Derived.ProofKit
import Derived.OpenShut
import Derived.JoinedCond
namespace Go.Proofs.Ytabdbihbodcmeaa.gg
open Go Go.GG Go.Proofs Go.ChangeShapes Go.WideShapes Go.ChangeAt Go.RowKit
theorem own_orderCodes : ownKnob Try.prog.godebug = none := by kernel_rfl
theorem laid_orderCodes : laidOutB Try.prog = true := by kernel_rfl
def bulk_orderCodes (H : Type) : Bulk H where
  one := Rows.uptoBulk
  all := Rows.uptoBulkAll
  nil := by simp [Rows.uptoBulkAll]
  cons := fun d r => by simp [Rows.uptoBulkAll]
  lit := fun l => by cases l <;> simp [Rows.uptoBulk]
  str := fun l => by simp [Rows.uptoBulk]
  none := by simp [Rows.uptoBulk]
  slice := fun e r => by simp [Rows.uptoBulk]
  agg := fun p => by simp [Rows.uptoBulk]
theorem plain_orderCodes : ∀ x : RD PK.den ([.agg (.pair (.int .i64) (.pair (.pair (.int .i64) (.int .u64)) (.pair (.pair (.int .i64) (.pair (.slice .str) (.pair (.int .u64) (.int .i64)))) (.pair (.slice (.int .i64)) (.pair (.int .i64) (.pair (.int .i64) (.pair (.int .u64) (.pair .bool (.pair (.pair (.int .u64) (.pair (.pair .str .str) (.pair (.int .i64) (.pair (.int .i64) (.int .i64))))) (.pair (.pair (.int .u64) (.pair (.pair .str .str) (.pair (.slice (.pair .str (.pair (.int .u64) (.int .i64)))) (.slice (.pair .str (.int .u64)))))) (.pair .str (.int .i64))))))))))))] : List PK), wfAll ([.agg (.pair (.int .i64) (.pair (.pair (.int .i64) (.int .u64)) (.pair (.pair (.int .i64) (.pair (.slice .str) (.pair (.int .u64) (.int .i64)))) (.pair (.slice (.int .i64)) (.pair (.int .i64) (.pair (.int .i64) (.pair (.int .u64) (.pair .bool (.pair (.pair (.int .u64) (.pair (.pair .str .str) (.pair (.int .i64) (.pair (.int .i64) (.int .i64))))) (.pair (.pair (.int .u64) (.pair (.pair .str .str) (.pair (.slice (.pair .str (.pair (.int .u64) (.int .i64)))) (.slice (.pair .str (.int .u64)))))) (.pair .str (.int .i64))))))))))))] : List PK) x → bulkAll ([.agg (.pair (.int .i64) (.pair (.pair (.int .i64) (.int .u64)) (.pair (.pair (.int .i64) (.pair (.slice .str) (.pair (.int .u64) (.int .i64)))) (.pair (.slice (.int .i64)) (.pair (.int .i64) (.pair (.int .i64) (.pair (.int .u64) (.pair .bool (.pair (.pair (.int .u64) (.pair (.pair .str .str) (.pair (.int .i64) (.pair (.int .i64) (.int .i64))))) (.pair (.pair (.int .u64) (.pair (.pair .str .str) (.pair (.slice (.pair .str (.pair (.int .u64) (.int .i64)))) (.slice (.pair .str (.int .u64)))))) (.pair .str (.int .i64))))))))))))] : List PK) x ≤ 1048576 → ∃ k, law22_OrderCodes_spec.F k x = some true := fun x hw hb => law_OrderCodes' x hw.1 (Nat.le_trans (Nat.le_add_right _ _) hb)
set_option maxRecDepth 100000 in
theorem lifted_orderCodes (os : Os) (started : os.Started) (H : Type) (enc : TypeId × Value → H) (F : Stop.Interp) :
    ReturnsInHanded {} Try.checked os 3 .any ((Rows.OpenSpec.upto Rows.orderCodesSpec).pre6 enc Try.prog Try.f3 Rows.orderCodesUptoRow.domain false) (((Rows.OpenSpec.upto Rows.orderCodesSpec).at F).post enc Try.prog Try.f3 false true false false) := by
  refine returnsInHanded_of_cond (C := Try.checked) (s := Rows.OpenSpec.upto Rows.orderCodesSpec) (k := Rows.uptoSmall) rfl own_orderCodes started (by kernel_rfl) Try.func3
    (OpenSpec.witness (enc := enc) (C := Try.checked) (s := Rows.OpenSpec.upto Rows.orderCodesSpec) (k := Rows.uptoSmall) rfl false ⟨#[], #[.agg #[.int .i64 0, .int .i64 0, .int .u64 0, .int .i64 0, .slice none 0 0, .int .u64 0, .int .i64 0, .slice none 0 0, .int .i64 0, .int .i64 0, .int .u64 0, .bool false, .int .u64 0, .string .empty, .string .empty, .int .i64 0, .int .i64 0, .int .i64 0, .int .u64 0, .string .empty, .string .empty, .slice none 0 0, .slice none 0 0, .string .empty, .int .i64 0]], []⟩ 12 (by kernel_rfl) (by kernel_rfl) (by kernel_rfl)
      (x := ([.agg [.lit (.int .i64 0), .agg [.lit (.int .i64 0), .lit (.int .u64 0)], .agg [.lit (.int .i64 0), .nil, .lit (.int .u64 0), .lit (.int .i64 0)], .nil, .lit (.int .i64 0), .lit (.int .i64 0), .lit (.int .u64 0), .lit (.bool false), .agg [.lit (.int .u64 0), .agg [.lit (.string []), .lit (.string [])], .lit (.int .i64 0), .lit (.int .i64 0), .lit (.int .i64 0)], .agg [.lit (.int .u64 0), .agg [.lit (.string []), .lit (.string [])], .nil, .nil], .lit (.string []), .lit (.int .i64 0)]], [], [])) (by kernel_rfl) rfl (by kernel_rfl)) ?_
  intro W base args ds gs before hval hW _ hk _
  have hb : Rows.uptoBulkAll (ds ++ gs) ≤ 1048576 := of_decide_eq_true hk
  exact law_contract (s := Rows.orderCodesSpec) (bulk_orderCodes H) law22_OrderCodes_sok (by kernel_rfl) rfl rfl (by kernel_rfl : Try.prog.underlying 4 = some .bool) laid_orderCodes (by kernel_rfl) hval hW
    (fun ds h => by match ds, h with | [d], _ => rfl) (fun x hw hx => plain_orderCodes x hw (Nat.le_trans hx hb))
theorem proved_orderCodes : Rows.OrderCodesUptoSaid :=
  OpenClaim.holds_of_cond 3 Try.f3 rfl rfl rfl rfl rfl rfl rfl ⟨rfl, rfl, rfl, rfl, rfl⟩ rfl rfl rfl rfl rfl (by kernel_rfl) Try.func3 (by kernel_rfl)
    (of_decide_eq_true (by kernel_rfl)) (by unfold Func.isWrapper; first | (rw [if_pos (by decide +kernel)]; kernel_rfl) | (rw [if_neg (by decide +kernel)]; exact ⟨rfl, rfl⟩))
    (fun os started H enc _ F => lifted_orderCodes os started H enc F)
end Go.Proofs.Ytabdbihbodcmeaa.gg
