/- SessionOnce: 'the theorem of once', for every input of bulk at most 1048576. No condition beside the statement's own. -/
import Derived.Test.YtfhocjhnoocajaaRows
import Derived.Test.YtfhocjhnoocajaaP
import Derived.Test.YtfhocjhnoocajaaY
import Derived.ProofKit
import Derived.OpenShut
import Derived.JoinedCond
namespace Go.Proofs.Ytfhocjhnoocajaa.gg
open Go Go.GG Go.Proofs Go.ChangeShapes Go.WideShapes Go.ChangeAt Go.RowKit
theorem own_sessionOnce : ownKnob Try.prog.godebug = none := by kernel_rfl
theorem laid_sessionOnce : laidOutB Try.prog = true := by kernel_rfl
def bulk_sessionOnce (H : Type) : Bulk H where
  one := Rows.uptoBulk
  all := Rows.uptoBulkAll
  nil := by simp [Rows.uptoBulkAll]
  cons := fun d r => by simp [Rows.uptoBulkAll]
  lit := fun l => by cases l <;> simp [Rows.uptoBulk]
  str := fun l => by simp [Rows.uptoBulk]
  none := by simp [Rows.uptoBulk]
  slice := fun e r => by simp [Rows.uptoBulk]
  agg := fun p => by simp [Rows.uptoBulk]
theorem plain_sessionOnce : ∀ x : RD PK.den ([.imm (.slice (.pair (.int .i64) (.int .u64)))] : List PK), wfAll ([.imm (.slice (.pair (.int .i64) (.int .u64)))] : List PK) x → bulkAll ([.imm (.slice (.pair (.int .i64) (.int .u64)))] : List PK) x ≤ 1048576 → ∃ k, law16_SessionOnce_spec.F k x = some true := fun x hw hb => by
  have h1 := bulk_slice (t := .pair (.int .i64) (.int .u64)) x
  have h3 : (T.slice (.pair (.int .i64) (.int .u64))).bulk x + 0 ≤ 1048576 := hb
  exact law_SessionOnce x (by omega)
set_option maxRecDepth 100000 in
theorem lifted_sessionOnce (os : Os) (started : os.Started) (H : Type) (enc : TypeId × Value → H) (F : Stop.Interp) :
    ReturnsInHanded {} Try.checked os 4 .any ((Rows.OpenSpec.upto Rows.sessionOnceSpec).pre6 enc Try.prog Try.f4 Rows.sessionOnceUptoRow.domain false) (((Rows.OpenSpec.upto Rows.sessionOnceSpec).at F).post enc Try.prog Try.f4 false true false false) := by
  refine returnsInHanded_of_cond (C := Try.checked) (s := Rows.OpenSpec.upto Rows.sessionOnceSpec) (k := Rows.uptoSmall) rfl own_sessionOnce started (by kernel_rfl) Try.func4
    (OpenSpec.witness (enc := enc) (C := Try.checked) (s := Rows.OpenSpec.upto Rows.sessionOnceSpec) (k := Rows.uptoSmall) rfl false ⟨#[], #[.slice none 0 0], []⟩ 12 (by kernel_rfl) (by kernel_rfl) (by kernel_rfl)
      (x := ([.nil], [], [])) (by kernel_rfl) rfl (by kernel_rfl)) ?_
  intro W base args ds gs before hval hW _ hk _
  have hb : Rows.uptoBulkAll (ds ++ gs) ≤ 1048576 := of_decide_eq_true hk
  exact law_contract (s := Rows.sessionOnceSpec) (bulk_sessionOnce H) law16_SessionOnce_sok (by kernel_rfl) rfl rfl (by kernel_rfl : Try.prog.underlying 4 = some .bool) laid_sessionOnce (by kernel_rfl) hval hW
    (fun ds h => by match ds, h with | [d], _ => rfl) (fun x hw hx => plain_sessionOnce x hw (Nat.le_trans hx hb))
theorem proved_sessionOnce : Rows.SessionOnceUptoSaid :=
  OpenClaim.holds_of_cond 4 Try.f4 rfl rfl rfl rfl rfl rfl rfl ⟨rfl, rfl, rfl, rfl, rfl⟩ rfl rfl rfl rfl rfl (by kernel_rfl) Try.func4 (by kernel_rfl)
    (of_decide_eq_true (by kernel_rfl)) (by unfold Func.isWrapper; first | (rw [if_pos (by decide +kernel)]; kernel_rfl) | (rw [if_neg (by decide +kernel)]; exact ⟨rfl, rfl⟩))
    (fun os started H enc _ F => lifted_sessionOnce os started H enc F)
end Go.Proofs.Ytfhocjhnoocajaa.gg
