/- SpanKeys: 'the theorem of sets', for every input of bulk at most 1048576. No condition beside the statement's own. -/
import Derived.Test.YtlgfmkccnljhoaaRows
import Derived.Test.YtlgfmkccnljhoaaP
import Derived.Test.YtlgfmkccnljhoaaY
import Derived.ProofKit
import Derived.OpenShut
import Derived.JoinedCond
namespace Go.Proofs.Ytlgfmkccnljhoaa.gg
open Go Go.GG Go.Proofs Go.ChangeShapes Go.WideShapes Go.ChangeAt Go.RowKit
theorem own_spanKeys : ownKnob Try.prog.godebug = none := by kernel_rfl
theorem laid_spanKeys : laidOutB Try.prog = true := by kernel_rfl
def bulk_spanKeys (H : Type) : Bulk H where
  one := Rows.uptoBulk
  all := Rows.uptoBulkAll
  nil := by simp [Rows.uptoBulkAll]
  cons := fun d r => by simp [Rows.uptoBulkAll]
  lit := fun l => by cases l <;> simp [Rows.uptoBulk]
  str := fun l => by simp [Rows.uptoBulk]
  none := by simp [Rows.uptoBulk]
  slice := fun e r => by simp [Rows.uptoBulk]
  agg := fun p => by simp [Rows.uptoBulk]
theorem plain_spanKeys : ∀ x : RD PK.den ([.imm (.slice (.pair .str .str)), .agg (.pair .str .str), .imm .str] : List PK), wfAll ([.imm (.slice (.pair .str .str)), .agg (.pair .str .str), .imm .str] : List PK) x → bulkAll ([.imm (.slice (.pair .str .str)), .agg (.pair .str .str), .imm .str] : List PK) x ≤ 1048576 → ∃ k, law10_SpanKeys_spec.F k x = some true := fun x hw hb => by
  have h3 : (T.slice (.pair .str .str)).bulk x.1 + (((x.2.1.1.length + 1) + (x.2.1.2.length + 1)) + (T.bulk .str x.2.2 + 0)) ≤ 1048576 := hb
  obtain ⟨h4, h5⟩ := span_bulk (l := x.1) (n := 1048576) (by omega)
  exact law_SpanKeys x.1 x.2.1 x.2.2 (by omega) h5 ⟨by omega, by omega⟩
set_option maxRecDepth 100000 in
theorem lifted_spanKeys (os : Os) (started : os.Started) (H : Type) (enc : TypeId × Value → H) (F : Stop.Interp) :
    ReturnsInHanded {} Try.checked os 6 .any ((Rows.OpenSpec.upto Rows.spanKeysSpec).pre6 enc Try.prog Try.f6 Rows.spanKeysUptoRow.domain false) (((Rows.OpenSpec.upto Rows.spanKeysSpec).at F).post enc Try.prog Try.f6 false true false false) := by
  refine returnsInHanded_of_cond (C := Try.checked) (s := Rows.OpenSpec.upto Rows.spanKeysSpec) (k := Rows.uptoSmall) rfl own_spanKeys started (by kernel_rfl) Try.func6
    (OpenSpec.witness (enc := enc) (C := Try.checked) (s := Rows.OpenSpec.upto Rows.spanKeysSpec) (k := Rows.uptoSmall) rfl false ⟨#[], #[.slice none 0 0, .agg #[.string .empty, .string .empty], .string .empty], []⟩ 12 (by kernel_rfl) (by kernel_rfl) (by kernel_rfl)
      (x := ([.nil, .agg [.lit (.string []), .lit (.string [])], .lit (.string [])], [], [])) (by kernel_rfl) rfl (by kernel_rfl)) ?_
  intro W base args ds gs before hval hW _ hk _
  have hb : Rows.uptoBulkAll (ds ++ gs) ≤ 1048576 := of_decide_eq_true hk
  exact law_contract (s := Rows.spanKeysSpec) (bulk_spanKeys H) law10_SpanKeys_sok (by kernel_rfl) rfl rfl (by kernel_rfl : Try.prog.underlying 4 = some .bool) laid_spanKeys (by kernel_rfl) hval hW
    (fun ds h => by match ds, h with | [d1, d2, d3], _ => rfl) (fun x hw hx => plain_spanKeys x hw (Nat.le_trans hx hb))
theorem proved_spanKeys : Rows.SpanKeysUptoSaid :=
  OpenClaim.holds_of_cond 6 Try.f6 rfl rfl rfl rfl rfl rfl rfl ⟨rfl, rfl, rfl, rfl, rfl⟩ rfl rfl rfl rfl rfl (by kernel_rfl) Try.func6 (by kernel_rfl)
    (of_decide_eq_true (by kernel_rfl)) (by unfold Func.isWrapper; first | (rw [if_pos (by decide +kernel)]; kernel_rfl) | (rw [if_neg (by decide +kernel)]; exact ⟨rfl, rfl⟩))
    (fun os started H enc _ F => lifted_spanKeys os started H enc F)
end Go.Proofs.Ytlgfmkccnljhoaa.gg
