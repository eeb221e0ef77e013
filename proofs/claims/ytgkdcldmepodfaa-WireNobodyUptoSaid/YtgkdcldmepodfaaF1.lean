/- WireNobody: 'a reader that is none reads nothing', for every input of bulk at most 1048576. No condition beside the statement's own. -/
import Derived.Test.YtgkdcldmepodfaaRows
import Derived.Test.YtgkdcldmepodfaaP
import Derived.Test.YtgkdcldmepodfaaX
import Derived.ProofKit
import Derived.OpenShut
import Derived.JoinedCond
namespace Go.Proofs.Ytgkdcldmepodfaa.gg
open Go Go.GG Go.Proofs Go.ChangeShapes Go.WideShapes Go.ChangeAt Go.RowKit
theorem own_wireNobody : ownKnob Try.prog.godebug = none := by kernel_rfl
theorem laid_wireNobody : laidOutB Try.prog = true := by kernel_rfl
def bulk_wireNobody (H : Type) : Bulk H where
  one := Rows.uptoBulk
  all := Rows.uptoBulkAll
  nil := by simp [Rows.uptoBulkAll]
  cons := fun d r => by simp [Rows.uptoBulkAll]
  lit := fun l => by cases l <;> simp [Rows.uptoBulk]
  str := fun l => by simp [Rows.uptoBulk]
  none := by simp [Rows.uptoBulk]
  slice := fun e r => by simp [Rows.uptoBulk]
  agg := fun p => by simp [Rows.uptoBulk]
theorem plain_wireNobody : ∀ x : RD PK.den ([.agg (.pair (.int .i64) (.pair (.int .u64) (.pair (.slice (.int .u8)) (.int .i64))))] : List PK), wfAll ([.agg (.pair (.int .i64) (.pair (.int .u64) (.pair (.slice (.int .u8)) (.int .i64))))] : List PK) x → bulkAll ([.agg (.pair (.int .i64) (.pair (.int .u64) (.pair (.slice (.int .u8)) (.int .i64))))] : List PK) x ≤ 1048576 → ∃ k, law02_WireNobody_spec.F k x = some true := fun x hw hb => law_WireNobody x
set_option maxRecDepth 100000 in
theorem lifted_wireNobody (os : Os) (started : os.Started) (H : Type) (enc : TypeId × Value → H) (F : Stop.Interp) :
    ReturnsInHanded {} Try.checked os 6 .any ((Rows.OpenSpec.upto Rows.wireNobodySpec).pre6 enc Try.prog Try.f6 Rows.wireNobodyUptoRow.domain false) (((Rows.OpenSpec.upto Rows.wireNobodySpec).at F).post enc Try.prog Try.f6 false true false false) := by
  refine returnsInHanded_of_cond (C := Try.checked) (s := Rows.OpenSpec.upto Rows.wireNobodySpec) (k := Rows.uptoSmall) rfl own_wireNobody started (by kernel_rfl) Try.func6
    (OpenSpec.witness (enc := enc) (C := Try.checked) (s := Rows.OpenSpec.upto Rows.wireNobodySpec) (k := Rows.uptoSmall) rfl false ⟨#[], #[.agg #[.int .i64 0, .int .u64 0, .slice none 0 0, .int .i64 0]], []⟩ 12 (by kernel_rfl) (by kernel_rfl) (by kernel_rfl)
      (x := ([.agg [.lit (.int .i64 0), .lit (.int .u64 0), .nil, .lit (.int .i64 0)]], [], [])) (by kernel_rfl) rfl (by kernel_rfl)) ?_
  intro W base args ds gs before hval hW _ hk _
  have hb : Rows.uptoBulkAll (ds ++ gs) ≤ 1048576 := of_decide_eq_true hk
  exact law_contract (s := Rows.wireNobodySpec) (bulk_wireNobody H) law02_WireNobody_sok (by kernel_rfl) rfl rfl (by kernel_rfl : Try.prog.underlying 4 = some .bool) laid_wireNobody (by kernel_rfl) hval hW
    (fun ds h => by match ds, h with | [d], _ => rfl) (fun x hw hx => plain_wireNobody x hw (Nat.le_trans hx hb))
theorem proved_wireNobody : Rows.WireNobodyUptoSaid :=
  OpenClaim.holds_of_cond 6 Try.f6 rfl rfl rfl rfl rfl rfl rfl ⟨rfl, rfl, rfl, rfl, rfl⟩ rfl rfl rfl rfl rfl (by kernel_rfl) Try.func6 (by kernel_rfl)
    (of_decide_eq_true (by kernel_rfl)) (by unfold Func.isWrapper; first | (rw [if_pos (by decide +kernel)]; kernel_rfl) | (rw [if_neg (by decide +kernel)]; exact ⟨rfl, rfl⟩))
    (fun os started H enc _ F => lifted_wireNobody os started H enc F)
end Go.Proofs.Ytgkdcldmepodfaa.gg
