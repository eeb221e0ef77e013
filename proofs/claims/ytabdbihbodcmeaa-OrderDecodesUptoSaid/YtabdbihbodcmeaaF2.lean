/- OrderDecodes: 'which order any bytes are', for every input of bulk at most 1048576. No condition beside the statement's own. -/
import Derived.Test.YtabdbihbodcmeaaRows
import Derived.Test.YtabdbihbodcmeaaP
import Derived.Test.YtabdbihbodcmeaaX
import Derived.ProofKit
import Derived.OpenShut
import Derived.JoinedCond
namespace Go.Proofs.Ytabdbihbodcmeaa.gg
open Go Go.GG Go.Proofs Go.ChangeShapes Go.WideShapes Go.ChangeAt Go.RowKit
theorem own_orderDecodes : ownKnob Try.prog.godebug = none := by kernel_rfl
theorem laid_orderDecodes : laidOutB Try.prog = true := by kernel_rfl
def bulk_orderDecodes (H : Type) : Bulk H where
  one := Rows.uptoBulk
  all := Rows.uptoBulkAll
  nil := by simp [Rows.uptoBulkAll]
  cons := fun d r => by simp [Rows.uptoBulkAll]
  lit := fun l => by cases l <;> simp [Rows.uptoBulk]
  str := fun l => by simp [Rows.uptoBulk]
  none := by simp [Rows.uptoBulk]
  slice := fun e r => by simp [Rows.uptoBulk]
  agg := fun p => by simp [Rows.uptoBulk]
theorem plain_orderDecodes : ∀ x : RD PK.den ([.imm (.slice (.int .u8))] : List PK), wfAll ([.imm (.slice (.int .u8))] : List PK) x → bulkAll ([.imm (.slice (.int .u8))] : List PK) x ≤ 1048576 → ∃ k, law22_OrderDecodes_spec.F k x = some true := fun x hw hb => law_OrderDecodes x (fun y hy => by have h := hw.1 y hy; exact ⟨h.1, Int.lt_add_one_of_le h.2⟩)
set_option maxRecDepth 100000 in
theorem lifted_orderDecodes (os : Os) (started : os.Started) (H : Type) (enc : TypeId × Value → H) (F : Stop.Interp) :
    ReturnsInHanded {} Try.checked os 4 .any ((Rows.OpenSpec.upto Rows.orderDecodesSpec).pre6 enc Try.prog Try.f4 Rows.orderDecodesUptoRow.domain false) (((Rows.OpenSpec.upto Rows.orderDecodesSpec).at F).post enc Try.prog Try.f4 false true false false) := by
  refine returnsInHanded_of_cond (C := Try.checked) (s := Rows.OpenSpec.upto Rows.orderDecodesSpec) (k := Rows.uptoSmall) rfl own_orderDecodes started (by kernel_rfl) Try.func4
    (OpenSpec.witness (enc := enc) (C := Try.checked) (s := Rows.OpenSpec.upto Rows.orderDecodesSpec) (k := Rows.uptoSmall) rfl false ⟨#[], #[.slice none 0 0], []⟩ 12 (by kernel_rfl) (by kernel_rfl) (by kernel_rfl)
      (x := ([.nil], [], [])) (by kernel_rfl) rfl (by kernel_rfl)) ?_
  intro W base args ds gs before hval hW _ hk _
  have hb : Rows.uptoBulkAll (ds ++ gs) ≤ 1048576 := of_decide_eq_true hk
  exact law_contract (s := Rows.orderDecodesSpec) (bulk_orderDecodes H) law22_OrderDecodes_sok (by kernel_rfl) rfl rfl (by kernel_rfl : Try.prog.underlying 4 = some .bool) laid_orderDecodes (by kernel_rfl) hval hW
    (fun ds h => by match ds, h with | [d], _ => rfl) (fun x hw hx => plain_orderDecodes x hw (Nat.le_trans hx hb))
theorem proved_orderDecodes : Rows.OrderDecodesUptoSaid :=
  OpenClaim.holds_of_cond 4 Try.f4 rfl rfl rfl rfl rfl rfl rfl ⟨rfl, rfl, rfl, rfl, rfl⟩ rfl rfl rfl rfl rfl (by kernel_rfl) Try.func4 (by kernel_rfl)
    (of_decide_eq_true (by kernel_rfl)) (by unfold Func.isWrapper; first | (rw [if_pos (by decide +kernel)]; kernel_rfl) | (rw [if_neg (by decide +kernel)]; exact ⟨rfl, rfl⟩))
    (fun os started H enc _ F => lifted_orderDecodes os started H enc F)
end Go.Proofs.Ytabdbihbodcmeaa.gg
