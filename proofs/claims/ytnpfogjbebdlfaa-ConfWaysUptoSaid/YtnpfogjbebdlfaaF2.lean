/- ConfWays: 'the way from any voters to any others', for every input of bulk at most 1048576. No condition beside the statement's own. -/
import Derived.Test.YtnpfogjbebdlfaaRows
import Derived.Test.YtnpfogjbebdlfaaP
import Derived.Test.YtnpfogjbebdlfaaX
import Derived.ProofKit
import Derived.OpenShut
import Derived.JoinedCond
namespace Go.Proofs.Ytnpfogjbebdlfaa.gg
open Go Go.GG Go.Proofs Go.ChangeShapes Go.WideShapes Go.ChangeAt Go.RowKit
theorem own_confWays : ownKnob Try.prog.godebug = none := by kernel_rfl
theorem laid_confWays : laidOutB Try.prog = true := by kernel_rfl
def bulk_confWays (H : Type) : Bulk H where
  one := Rows.uptoBulk
  all := Rows.uptoBulkAll
  nil := by simp [Rows.uptoBulkAll]
  cons := fun d r => by simp [Rows.uptoBulkAll]
  lit := fun l => by cases l <;> simp [Rows.uptoBulk]
  str := fun l => by simp [Rows.uptoBulk]
  none := by simp [Rows.uptoBulk]
  slice := fun e r => by simp [Rows.uptoBulk]
  agg := fun p => by simp [Rows.uptoBulk]
theorem plain_confWays : ∀ x : RD PK.den ([.imm (.slice (.int .i64)), .imm (.slice (.int .i64))] : List PK), wfAll ([.imm (.slice (.int .i64)), .imm (.slice (.int .i64))] : List PK) x → bulkAll ([.imm (.slice (.int .i64)), .imm (.slice (.int .i64))] : List PK) x ≤ 1048576 → ∃ k, law15_ConfWays_spec.F k x = some true := fun x hw hb => by
  have h1 := bulk_slice (t := .int .i64) x.1
  have h2 := bulk_slice (t := .int .i64) x.2
  have h3 : (T.slice (.int .i64)).bulk x.1 + ((T.slice (.int .i64)).bulk x.2 + 0) ≤ 1048576 := hb
  exact law_ConfWays x.1 x.2 (by omega) (by omega)
set_option maxRecDepth 100000 in
theorem lifted_confWays (os : Os) (started : os.Started) (H : Type) (enc : TypeId × Value → H) (F : Stop.Interp) :
    ReturnsInHanded {} Try.checked os 3 .any ((Rows.OpenSpec.upto Rows.confWaysSpec).pre6 enc Try.prog Try.f3 Rows.confWaysUptoRow.domain false) (((Rows.OpenSpec.upto Rows.confWaysSpec).at F).post enc Try.prog Try.f3 false true false false) := by
  refine returnsInHanded_of_cond (C := Try.checked) (s := Rows.OpenSpec.upto Rows.confWaysSpec) (k := Rows.uptoSmall) rfl own_confWays started (by kernel_rfl) Try.func3
    (OpenSpec.witness (enc := enc) (C := Try.checked) (s := Rows.OpenSpec.upto Rows.confWaysSpec) (k := Rows.uptoSmall) rfl false ⟨#[], #[.slice none 0 0, .slice none 0 0], []⟩ 12 (by kernel_rfl) (by kernel_rfl) (by kernel_rfl)
      (x := ([.nil, .nil], [], [])) (by kernel_rfl) rfl (by kernel_rfl)) ?_
  intro W base args ds gs before hval hW _ hk _
  have hb : Rows.uptoBulkAll (ds ++ gs) ≤ 1048576 := of_decide_eq_true hk
  exact law_contract (s := Rows.confWaysSpec) (bulk_confWays H) law15_ConfWays_sok (by kernel_rfl) rfl rfl (by kernel_rfl : Try.prog.underlying 4 = some .bool) laid_confWays (by kernel_rfl) hval hW
    (fun ds h => by match ds, h with | [d1, d2], _ => rfl) (fun x hw hx => plain_confWays x hw (Nat.le_trans hx hb))
theorem proved_confWays : Rows.ConfWaysUptoSaid :=
  OpenClaim.holds_of_cond 3 Try.f3 rfl rfl rfl rfl rfl rfl rfl ⟨rfl, rfl, rfl, rfl, rfl⟩ rfl rfl rfl rfl rfl (by kernel_rfl) Try.func3 (by kernel_rfl)
    (of_decide_eq_true (by kernel_rfl)) (by unfold Func.isWrapper; first | (rw [if_pos (by decide +kernel)]; kernel_rfl) | (rw [if_neg (by decide +kernel)]; exact ⟨rfl, rfl⟩))
    (fun os started H enc _ F => lifted_confWays os started H enc F)
end Go.Proofs.Ytnpfogjbebdlfaa.gg
