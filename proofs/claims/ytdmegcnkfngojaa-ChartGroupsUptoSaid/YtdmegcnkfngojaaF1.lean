/- ChartGroups: 'which groups some keys need', for every input of bulk at most 1048576. No condition beside the statement's own. -/
import Derived.Test.YtdmegcnkfngojaaRows
import Derived.Test.YtdmegcnkfngojaaP
import Derived.Test.YtdmegcnkfngojaaX
import Derived.ProofKit
import Derived.OpenShut
import Derived.JoinedCond
namespace Go.Proofs.Ytdmegcnkfngojaa.gg
open Go Go.GG Go.Proofs Go.ChangeShapes Go.WideShapes Go.ChangeAt Go.RowKit
theorem own_chartGroups : ownKnob Try.prog.godebug = none := by kernel_rfl
theorem laid_chartGroups : laidOutB Try.prog = true := by kernel_rfl
def bulk_chartGroups (H : Type) : Bulk H where
  one := Rows.uptoBulk
  all := Rows.uptoBulkAll
  nil := by simp [Rows.uptoBulkAll]
  cons := fun d r => by simp [Rows.uptoBulkAll]
  lit := fun l => by cases l <;> simp [Rows.uptoBulk]
  str := fun l => by simp [Rows.uptoBulk]
  none := by simp [Rows.uptoBulk]
  slice := fun e r => by simp [Rows.uptoBulk]
  agg := fun p => by simp [Rows.uptoBulk]
theorem plain_chartGroups : ∀ x : RD PK.den ([.imm (.slice (.pair (.pair .str .str) (.pair (.int .i64) (.int .u64)))), .imm (.slice .str), .imm (.int .i64)] : List PK), wfAll ([.imm (.slice (.pair (.pair .str .str) (.pair (.int .i64) (.int .u64)))), .imm (.slice .str), .imm (.int .i64)] : List PK) x → bulkAll ([.imm (.slice (.pair (.pair .str .str) (.pair (.int .i64) (.int .u64)))), .imm (.slice .str), .imm (.int .i64)] : List PK) x ≤ 1048576 → ∃ k, law11_ChartGroups_spec.F k x = some true := fun x hw hb => by
  have h1 := bulk_slice (t := .pair (.pair .str .str) (.pair (.int .i64) (.int .u64))) x.1
  have h3 : (T.slice (.pair (.pair .str .str) (.pair (.int .i64) (.int .u64)))).bulk x.1 + ((T.slice .str).bulk x.2.1 + (1 + 0)) ≤ 1048576 := hb
  exact law_ChartGroups x.1 x.2.1 x.2.2 (by omega)
set_option maxRecDepth 100000 in
theorem lifted_chartGroups (os : Os) (started : os.Started) (H : Type) (enc : TypeId × Value → H) (F : Stop.Interp) :
    ReturnsInHanded {} Try.checked os 8 .any ((Rows.OpenSpec.upto Rows.chartGroupsSpec).pre6 enc Try.prog Try.f8 Rows.chartGroupsUptoRow.domain false) (((Rows.OpenSpec.upto Rows.chartGroupsSpec).at F).post enc Try.prog Try.f8 false true false false) := by
  refine returnsInHanded_of_cond (C := Try.checked) (s := Rows.OpenSpec.upto Rows.chartGroupsSpec) (k := Rows.uptoSmall) rfl own_chartGroups started (by kernel_rfl) Try.func8
    (OpenSpec.witness (enc := enc) (C := Try.checked) (s := Rows.OpenSpec.upto Rows.chartGroupsSpec) (k := Rows.uptoSmall) rfl false ⟨#[], #[.slice none 0 0, .slice none 0 0, .int .i64 0], []⟩ 12 (by kernel_rfl) (by kernel_rfl) (by kernel_rfl)
      (x := ([.nil, .nil, .lit (.int .i64 0)], [], [])) (by kernel_rfl) rfl (by kernel_rfl)) ?_
  intro W base args ds gs before hval hW _ hk _
  have hb : Rows.uptoBulkAll (ds ++ gs) ≤ 1048576 := of_decide_eq_true hk
  exact law_contract (s := Rows.chartGroupsSpec) (bulk_chartGroups H) law11_ChartGroups_sok (by kernel_rfl) rfl rfl (by kernel_rfl : Try.prog.underlying 4 = some .bool) laid_chartGroups (by kernel_rfl) hval hW
    (fun ds h => by match ds, h with | [d1, d2, d3], _ => rfl) (fun x hw hx => plain_chartGroups x hw (Nat.le_trans hx hb))
theorem proved_chartGroups : Rows.ChartGroupsUptoSaid :=
  OpenClaim.holds_of_cond 8 Try.f8 rfl rfl rfl rfl rfl rfl rfl ⟨rfl, rfl, rfl, rfl, rfl⟩ rfl rfl rfl rfl rfl (by kernel_rfl) Try.func8 (by kernel_rfl)
    (of_decide_eq_true (by kernel_rfl)) (by unfold Func.isWrapper; first | (rw [if_pos (by decide +kernel)]; kernel_rfl) | (rw [if_neg (by decide +kernel)]; exact ⟨rfl, rfl⟩))
    (fun os started H enc _ F => lifted_chartGroups os started H enc F)
end Go.Proofs.Ytdmegcnkfngojaa.gg
