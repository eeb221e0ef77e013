/- SessionCodes: 'seats' bytes', for every input of bulk at most 1048576. No condition beside the statement's own. -/
import Derived.Test.YtfhocjhnoocajaaRows
import Derived.Test.YtfhocjhnoocajaaP
import Derived.Test.YtfhocjhnoocajaaC
import Derived.ProofKit
import Derived.OpenShut
import Derived.JoinedCond
namespace Go.Proofs.Ytfhocjhnoocajaa.gg
open Go Go.GG Go.Proofs Go.ChangeShapes Go.WideShapes Go.ChangeAt Go.RowKit
theorem own_sessionCodes : ownKnob Try.prog.godebug = none := by kernel_rfl
theorem laid_sessionCodes : laidOutB Try.prog = true := by kernel_rfl
def bulk_sessionCodes (H : Type) : Bulk H where
  one := Rows.uptoBulk
  all := Rows.uptoBulkAll
  nil := by simp [Rows.uptoBulkAll]
  cons := fun d r => by simp [Rows.uptoBulkAll]
  lit := fun l => by cases l <;> simp [Rows.uptoBulk]
  str := fun l => by simp [Rows.uptoBulk]
  none := by simp [Rows.uptoBulk]
  slice := fun e r => by simp [Rows.uptoBulk]
  agg := fun p => by simp [Rows.uptoBulk]
theorem plain_sessionCodes : ∀ x : RD PK.den ([.imm (.slice (.pair (.int .i64) (.pair (.int .u64) (.slice (.int .u8)))))] : List PK), wfAll ([.imm (.slice (.pair (.int .i64) (.pair (.int .u64) (.slice (.int .u8)))))] : List PK) x → bulkAll ([.imm (.slice (.pair (.int .i64) (.pair (.int .u64) (.slice (.int .u8)))))] : List PK) x ≤ 1048576 → ∃ k, law16_SessionCodes_spec.F k x = some true := fun x hw hb => by
  have h3 : (T.slice seatT).bulk x + 0 ≤ 1048576 := hb
  obtain ⟨h4, h5⟩ := seat_bulk (l := x) (n := 1048576) (by omega)
  exact law_SessionCodes x (by omega) h5 (fun s hs y hy => by
    have h := (hw.1 s hs).2.2 y hy
    exact ⟨h.1, Int.lt_add_one_of_le h.2⟩)
set_option maxRecDepth 100000 in
theorem lifted_sessionCodes (os : Os) (started : os.Started) (H : Type) (enc : TypeId × Value → H) (F : Stop.Interp) :
    ReturnsInHanded {} Try.checked os 6 .any ((Rows.OpenSpec.upto Rows.sessionCodesSpec).pre6 enc Try.prog Try.f6 Rows.sessionCodesUptoRow.domain false) (((Rows.OpenSpec.upto Rows.sessionCodesSpec).at F).post enc Try.prog Try.f6 false true false false) := by
  refine returnsInHanded_of_cond (C := Try.checked) (s := Rows.OpenSpec.upto Rows.sessionCodesSpec) (k := Rows.uptoSmall) rfl own_sessionCodes started (by kernel_rfl) Try.func6
    (OpenSpec.witness (enc := enc) (C := Try.checked) (s := Rows.OpenSpec.upto Rows.sessionCodesSpec) (k := Rows.uptoSmall) rfl false ⟨#[], #[.slice none 0 0], []⟩ 12 (by kernel_rfl) (by kernel_rfl) (by kernel_rfl)
      (x := ([.nil], [], [])) (by kernel_rfl) rfl (by kernel_rfl)) ?_
  intro W base args ds gs before hval hW _ hk _
  have hb : Rows.uptoBulkAll (ds ++ gs) ≤ 1048576 := of_decide_eq_true hk
  exact law_contract (s := Rows.sessionCodesSpec) (bulk_sessionCodes H) law16_SessionCodes_sok (by kernel_rfl) rfl rfl (by kernel_rfl : Try.prog.underlying 4 = some .bool) laid_sessionCodes (by kernel_rfl) hval hW
    (fun ds h => by match ds, h with | [d], _ => rfl) (fun x hw hx => plain_sessionCodes x hw (Nat.le_trans hx hb))
theorem proved_sessionCodes : Rows.SessionCodesUptoSaid :=
  OpenClaim.holds_of_cond 6 Try.f6 rfl rfl rfl rfl rfl rfl rfl ⟨rfl, rfl, rfl, rfl, rfl⟩ rfl rfl rfl rfl rfl (by kernel_rfl) Try.func6 (by kernel_rfl)
    (of_decide_eq_true (by kernel_rfl)) (by unfold Func.isWrapper; first | (rw [if_pos (by decide +kernel)]; kernel_rfl) | (rw [if_neg (by decide +kernel)]; exact ⟨rfl, rfl⟩))
    (fun os started H enc _ F => lifted_sessionCodes os started H enc F)
end Go.Proofs.Ytfhocjhnoocajaa.gg
