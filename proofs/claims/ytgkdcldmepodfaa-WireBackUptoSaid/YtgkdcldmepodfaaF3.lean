/- WireBack: 'what was written is read back', for every input of bulk at most 1048576. No condition beside the statement's own. -/
import Derived.Test.YtgkdcldmepodfaaRows
import Derived.Test.YtgkdcldmepodfaaP
import Derived.Test.YtgkdcldmepodfaaY
import Derived.ProofKit
import Derived.OpenShut
import Derived.JoinedCond
namespace Go.Proofs.Ytgkdcldmepodfaa.gg
open Go Go.GG Go.Proofs Go.ChangeShapes Go.WideShapes Go.ChangeAt Go.RowKit
theorem own_wireBack : ownKnob Try.prog.godebug = none := by kernel_rfl
theorem laid_wireBack : laidOutB Try.prog = true := by kernel_rfl
def bulk_wireBack (H : Type) : Bulk H where
  one := Rows.uptoBulk
  all := Rows.uptoBulkAll
  nil := by simp [Rows.uptoBulkAll]
  cons := fun d r => by simp [Rows.uptoBulkAll]
  lit := fun l => by cases l <;> simp [Rows.uptoBulk]
  str := fun l => by simp [Rows.uptoBulk]
  none := by simp [Rows.uptoBulk]
  slice := fun e r => by simp [Rows.uptoBulk]
  agg := fun p => by simp [Rows.uptoBulk]
theorem plain_wireBack : ∀ x : RD PK.den ([.imm (.slice (.pair (.int .i64) (.pair (.int .u64) (.pair (.slice (.int .u8)) (.int .i64)))))] : List PK), wfAll ([.imm (.slice (.pair (.int .i64) (.pair (.int .u64) (.pair (.slice (.int .u8)) (.int .i64)))))] : List PK) x → bulkAll ([.imm (.slice (.pair (.int .i64) (.pair (.int .u64) (.pair (.slice (.int .u8)) (.int .i64)))))] : List PK) x ≤ 1048576 → ∃ k, law02_WireBack_spec.F k x = some true := fun x hw hb => by
  have h1 := bulk_slice (t := itT) x
  have h2 := bulk_items x
  have h3 : ((x.map (T.bulk itT)).sum + 1) + 0 ≤ 1048576 := hb
  have h4 : x.length + 1 ≤ (x.map (T.bulk itT)).sum + 1 := h1
  exact law_WireBack x (fun y hy => by
    have h := hw.1 y hy
    have h5 := sum_mem hy
    exact ⟨h.2.1.1, Int.lt_add_one_of_le h.2.1.2, fun z hz => by
      have hh := h.2.2.1 z hz
      exact ⟨hh.1, Int.lt_add_one_of_le hh.2⟩, by omega⟩) (by omega) (by omega)
set_option maxRecDepth 100000 in
theorem lifted_wireBack (os : Os) (started : os.Started) (H : Type) (enc : TypeId × Value → H) (F : Stop.Interp) :
    ReturnsInHanded {} Try.checked os 5 .any ((Rows.OpenSpec.upto Rows.wireBackSpec).pre6 enc Try.prog Try.f5 Rows.wireBackUptoRow.domain false) (((Rows.OpenSpec.upto Rows.wireBackSpec).at F).post enc Try.prog Try.f5 false true false false) := by
  refine returnsInHanded_of_cond (C := Try.checked) (s := Rows.OpenSpec.upto Rows.wireBackSpec) (k := Rows.uptoSmall) rfl own_wireBack started (by kernel_rfl) Try.func5
    (OpenSpec.witness (enc := enc) (C := Try.checked) (s := Rows.OpenSpec.upto Rows.wireBackSpec) (k := Rows.uptoSmall) rfl false ⟨#[], #[.slice none 0 0], []⟩ 12 (by kernel_rfl) (by kernel_rfl) (by kernel_rfl)
      (x := ([.nil], [], [])) (by kernel_rfl) rfl (by kernel_rfl)) ?_
  intro W base args ds gs before hval hW _ hk _
  have hb : Rows.uptoBulkAll (ds ++ gs) ≤ 1048576 := of_decide_eq_true hk
  exact law_contract (s := Rows.wireBackSpec) (bulk_wireBack H) law02_WireBack_sok (by kernel_rfl) rfl rfl (by kernel_rfl : Try.prog.underlying 4 = some .bool) laid_wireBack (by kernel_rfl) hval hW
    (fun ds h => by match ds, h with | [d], _ => rfl) (fun x hw hx => plain_wireBack x hw (Nat.le_trans hx hb))
theorem proved_wireBack : Rows.WireBackUptoSaid :=
  OpenClaim.holds_of_cond 5 Try.f5 rfl rfl rfl rfl rfl rfl rfl ⟨rfl, rfl, rfl, rfl, rfl⟩ rfl rfl rfl rfl rfl (by kernel_rfl) Try.func5 (by kernel_rfl)
    (of_decide_eq_true (by kernel_rfl)) (by unfold Func.isWrapper; first | (rw [if_pos (by decide +kernel)]; kernel_rfl) | (rw [if_neg (by decide +kernel)]; exact ⟨rfl, rfl⟩))
    (fun os started H enc _ F => lifted_wireBack os started H enc F)
end Go.Proofs.Ytgkdcldmepodfaa.gg
