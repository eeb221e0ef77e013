/- ModelExpires: 'a key that runs out', for every input of bulk at most 1048576. No condition beside the statement's own. -/
import Derived.Test.YtbibgbadfcmccaaRows
import Derived.Test.YtbibgbadfcmccaaP
import Derived.Test.YtbibgbadfcmccaaX
import Derived.ProofKit
import Derived.OpenShut
import Derived.JoinedCond
namespace Go.Proofs.Ytbibgbadfcmccaa.gg
open Go Go.GG Go.Proofs Go.ChangeShapes Go.WideShapes Go.ChangeAt Go.RowKit
theorem own_modelExpires : ownKnob Try.prog.godebug = none := by kernel_rfl
theorem laid_modelExpires : laidOutB Try.prog = true := by kernel_rfl
def bulk_modelExpires (H : Type) : Bulk H where
  one := Rows.uptoBulk
  all := Rows.uptoBulkAll
  nil := by simp [Rows.uptoBulkAll]
  cons := fun d r => by simp [Rows.uptoBulkAll]
  lit := fun l => by cases l <;> simp [Rows.uptoBulk]
  str := fun l => by simp [Rows.uptoBulk]
  none := by simp [Rows.uptoBulk]
  slice := fun e r => by simp [Rows.uptoBulk]
  agg := fun p => by simp [Rows.uptoBulk]
theorem plain_modelExpires : ∀ x : RD PK.den ([.imm (.slice (.pair .str (.int .u64))), .imm .str] : List PK), wfAll ([.imm (.slice (.pair .str (.int .u64))), .imm .str] : List PK) x → bulkAll ([.imm (.slice (.pair .str (.int .u64))), .imm .str] : List PK) x ≤ 1048576 → ∃ k, law24_ModelExpires_spec.F k x = some true := fun x hw hb => law_ModelExpires x.1 x.2
set_option maxRecDepth 100000 in
theorem lifted_modelExpires (os : Os) (started : os.Started) (H : Type) (enc : TypeId × Value → H) (F : Stop.Interp) :
    ReturnsInHanded {} Try.checked os 5 .any ((Rows.OpenSpec.upto Rows.modelExpiresSpec).pre6 enc Try.prog Try.f5 Rows.modelExpiresUptoRow.domain false) (((Rows.OpenSpec.upto Rows.modelExpiresSpec).at F).post enc Try.prog Try.f5 false true false false) := by
  refine returnsInHanded_of_cond (C := Try.checked) (s := Rows.OpenSpec.upto Rows.modelExpiresSpec) (k := Rows.uptoSmall) rfl own_modelExpires started (by kernel_rfl) Try.func5
    (OpenSpec.witness (enc := enc) (C := Try.checked) (s := Rows.OpenSpec.upto Rows.modelExpiresSpec) (k := Rows.uptoSmall) rfl false ⟨#[], #[.slice none 0 0, .string .empty], []⟩ 12 (by kernel_rfl) (by kernel_rfl) (by kernel_rfl)
      (x := ([.nil, .lit (.string [])], [], [])) (by kernel_rfl) rfl (by kernel_rfl)) ?_
  intro W base args ds gs before hval hW _ hk _
  have hb : Rows.uptoBulkAll (ds ++ gs) ≤ 1048576 := of_decide_eq_true hk
  exact law_contract (s := Rows.modelExpiresSpec) (bulk_modelExpires H) law24_ModelExpires_sok (by kernel_rfl) rfl rfl (by kernel_rfl : Try.prog.underlying 4 = some .bool) laid_modelExpires (by kernel_rfl) hval hW
    (fun ds h => by match ds, h with | [d1, d2], _ => rfl) (fun x hw hx => plain_modelExpires x hw (Nat.le_trans hx hb))
theorem proved_modelExpires : Rows.ModelExpiresUptoSaid :=
  OpenClaim.holds_of_cond 5 Try.f5 rfl rfl rfl rfl rfl rfl rfl ⟨rfl, rfl, rfl, rfl, rfl⟩ rfl rfl rfl rfl rfl (by kernel_rfl) Try.func5 (by kernel_rfl)
    (of_decide_eq_true (by kernel_rfl)) (by unfold Func.isWrapper; first | (rw [if_pos (by decide +kernel)]; kernel_rfl) | (rw [if_neg (by decide +kernel)]; exact ⟨rfl, rfl⟩))
    (fun os started H enc _ F => lifted_modelExpires os started H enc F)
end Go.Proofs.Ytbibgbadfcmccaa.gg
