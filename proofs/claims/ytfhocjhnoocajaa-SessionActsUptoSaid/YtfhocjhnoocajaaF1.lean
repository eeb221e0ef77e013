/- SessionActs: 'what any seats tell of a call', for every input of bulk at most 1048576. No condition beside the statement's own. -/
import Derived.Test.YtfhocjhnoocajaaRows
import Derived.Test.YtfhocjhnoocajaaP
import Derived.Test.YtfhocjhnoocajaaX
import Derived.ProofKit
import Derived.OpenShut
import Derived.JoinedCond
namespace Go.Proofs.Ytfhocjhnoocajaa.gg
open Go Go.GG Go.Proofs Go.ChangeShapes Go.WideShapes Go.ChangeAt Go.RowKit
theorem own_sessionActs : ownKnob Try.prog.godebug = none := by kernel_rfl
theorem laid_sessionActs : laidOutB Try.prog = true := by kernel_rfl
def bulk_sessionActs (H : Type) : Bulk H where
  one := Rows.uptoBulk
  all := Rows.uptoBulkAll
  nil := by simp [Rows.uptoBulkAll]
  cons := fun d r => by simp [Rows.uptoBulkAll]
  lit := fun l => by cases l <;> simp [Rows.uptoBulk]
  str := fun l => by simp [Rows.uptoBulk]
  none := by simp [Rows.uptoBulk]
  slice := fun e r => by simp [Rows.uptoBulk]
  agg := fun p => by simp [Rows.uptoBulk]
theorem plain_sessionActs : ∀ x : RD PK.den ([.imm (.slice (.pair (.int .i64) (.pair (.int .u64) (.slice (.int .u8))))), .agg (.pair (.int .i64) (.int .u64)), .imm (.slice (.int .u8))] : List PK), wfAll ([.imm (.slice (.pair (.int .i64) (.pair (.int .u64) (.slice (.int .u8))))), .agg (.pair (.int .i64) (.int .u64)), .imm (.slice (.int .u8))] : List PK) x → bulkAll ([.imm (.slice (.pair (.int .i64) (.pair (.int .u64) (.slice (.int .u8))))), .agg (.pair (.int .i64) (.int .u64)), .imm (.slice (.int .u8))] : List PK) x ≤ 1048576 → ∃ k, law16_SessionActs_spec.F k x = some true := fun x hw hb => by
  have h1 := bulk_slice (t := .int .u8) x.2.2
  have h3 : (T.slice seatT).bulk x.1 + (T.bulk (.pair (.int .i64) (.int .u64)) x.2.1 + ((T.slice (.int .u8)).bulk x.2.2 + 0)) ≤ 1048576 := hb
  obtain ⟨h4, h5⟩ := seat_bulk (l := x.1) (n := 1048576) (by omega)
  exact law_SessionActs x.1 x.2.1 x.2.2 (by omega) h5 (by omega)
set_option maxRecDepth 100000 in
theorem lifted_sessionActs (os : Os) (started : os.Started) (H : Type) (enc : TypeId × Value → H) (F : Stop.Interp) :
    ReturnsInHanded {} Try.checked os 3 .any ((Rows.OpenSpec.upto Rows.sessionActsSpec).pre6 enc Try.prog Try.f3 Rows.sessionActsUptoRow.domain false) (((Rows.OpenSpec.upto Rows.sessionActsSpec).at F).post enc Try.prog Try.f3 false true false false) := by
  refine returnsInHanded_of_cond (C := Try.checked) (s := Rows.OpenSpec.upto Rows.sessionActsSpec) (k := Rows.uptoSmall) rfl own_sessionActs started (by kernel_rfl) Try.func3
    (OpenSpec.witness (enc := enc) (C := Try.checked) (s := Rows.OpenSpec.upto Rows.sessionActsSpec) (k := Rows.uptoSmall) rfl false ⟨#[], #[.slice none 0 0, .agg #[.int .i64 0, .int .u64 0], .slice none 0 0], []⟩ 12 (by kernel_rfl) (by kernel_rfl) (by kernel_rfl)
      (x := ([.nil, .agg [.lit (.int .i64 0), .lit (.int .u64 0)], .nil], [], [])) (by kernel_rfl) rfl (by kernel_rfl)) ?_
  intro W base args ds gs before hval hW _ hk _
  have hb : Rows.uptoBulkAll (ds ++ gs) ≤ 1048576 := of_decide_eq_true hk
  exact law_contract (s := Rows.sessionActsSpec) (bulk_sessionActs H) law16_SessionActs_sok (by kernel_rfl) rfl rfl (by kernel_rfl : Try.prog.underlying 4 = some .bool) laid_sessionActs (by kernel_rfl) hval hW
    (fun ds h => by match ds, h with | [d1, d2, d3], _ => rfl) (fun x hw hx => plain_sessionActs x hw (Nat.le_trans hx hb))
theorem proved_sessionActs : Rows.SessionActsUptoSaid :=
  OpenClaim.holds_of_cond 3 Try.f3 rfl rfl rfl rfl rfl rfl rfl ⟨rfl, rfl, rfl, rfl, rfl⟩ rfl rfl rfl rfl rfl (by kernel_rfl) Try.func3 (by kernel_rfl)
    (of_decide_eq_true (by kernel_rfl)) (by unfold Func.isWrapper; first | (rw [if_pos (by decide +kernel)]; kernel_rfl) | (rw [if_neg (by decide +kernel)]; exact ⟨rfl, rfl⟩))
    (fun os started H enc _ F => lifted_sessionActs os started H enc F)
end Go.Proofs.Ytfhocjhnoocajaa.gg
