/- DiskActs: 'what anything leaves that is done with any files', for every input of bulk at most 1048576, where the two tables of unicode/utf8 that the row lists begin as the program's text lays them (the card ties them). No condition beside the statement's own. -/
import Derived.Test.YtababmeocedhiaaDoorCards
import Derived.Test.YtababmeocedhiaaDoorTie
import Derived.Test.YtababmeocedhiaaDoorP
import Derived.Test.YtababmeocedhiaaDoorD
import Derived.ProofKit
import Derived.OpenShut
import Derived.JoinedCond
import Derived.Deep.DeepHandedRow
import Derived.Lib.LaidTab
namespace Go.Proofs.YtababmeocedhiaaDoor.gg
open Go Go.GG Go.Proofs Go.ChangeShapes Go.WideShapes Go.ChangeAt Go.RowKit
theorem own_diskActs : ownKnob Tryd.prog.godebug = none := by kernel_rfl
theorem laid_diskActs : laidOutB Tryd.prog = true := by kernel_rfl
def bulk_diskActs (H : Type) : Bulk H where
  one := Rows.uptoBulk
  all := Rows.uptoBulkAll
  nil := by simp [Rows.uptoBulkAll]
  cons := fun d r => by simp [Rows.uptoBulkAll]
  lit := fun l => by cases l <;> simp [Rows.uptoBulk]
  str := fun l => by simp [Rows.uptoBulk]
  none := by simp [Rows.uptoBulk]
  slice := fun e r => by simp [Rows.uptoBulk]
  agg := fun p => by simp [Rows.uptoBulk]
theorem plain_diskActs : ∀ x : RD PK.den ([.imm (.slice (.pair .str (.pair (.slice (.int .u8)) (.int .i64)))), .imm (.slice (.pair (.int .i64) (.pair .str (.pair .str (.pair (.slice (.int .u8)) (.pair (.int .i64) (.slice (.int .i64))))))))] : List PK), wfAll ([.imm (.slice (.pair .str (.pair (.slice (.int .u8)) (.int .i64)))), .imm (.slice (.pair (.int .i64) (.pair .str (.pair .str (.pair (.slice (.int .u8)) (.pair (.int .i64) (.slice (.int .i64))))))))] : List PK) x → bulkAll ([.imm (.slice (.pair .str (.pair (.slice (.int .u8)) (.int .i64)))), .imm (.slice (.pair (.int .i64) (.pair .str (.pair .str (.pair (.slice (.int .u8)) (.pair (.int .i64) (.slice (.int .i64))))))))] : List PK) x ≤ 1048576 → ∃ k, law05_DiskActs_spec.F k x = some true := fun x hw hb => law_DiskActs x.1 x.2 (by
    have h1 := bulk_slice (t := .pair .str (.pair (.slice (.int .u8)) (.int .i64))) x.1
    have h3 : (T.slice (.pair .str (.pair (.slice (.int .u8)) (.int .i64)))).bulk x.1 + ((T.slice (.pair (.int .i64) (.pair .str (.pair .str (.pair (.slice (.int .u8)) (.pair (.int .i64) (.slice (.int .i64)))))))).bulk x.2 + 0) ≤ 1048576 := hb
    omega) (acts_of (Nat.le_trans (Nat.le_trans (Nat.le_add_right _ 0) (Nat.le_add_left _ ((T.slice (.pair .str (.pair (.slice (.int .u8)) (.int .i64)))).bulk x.1))) hb))
/-- A world for the witness: the settled one, the two tables holding what the row lists. -/
noncomputable def world_diskActs (os : Os) : World :=
  { World.holding Tryd.prog os ⟨#[], #[], []⟩ with heap := (((World.holding Tryd.prog os ⟨#[], #[], []⟩).heap.modify 0 fun
      | .cells _ t frozen => .cells (Go.Pinned.utf8FirstZ.map fun (n : Nat) => Value.int .u8 n).toArray t frozen
      | o => o).modify 1 fun
      | .cells _ t frozen => .cells (([128, 191, 160, 191, 128, 159, 144, 191, 128, 143, 0, 0, 0, 0, 0, 0, 0, 0, 0, 0, 0, 0, 0, 0, 0, 0, 0, 0, 0, 0, 0, 0] : List Int).map fun n => Value.int .u8 n).toArray t frozen
      | o => o) }
theorem met_diskActs (os : Os) : laidMet Tryd.prog Rows.diskActsUptoRow.laid ((world_diskActs os).forCall (fun _ _ => 0) ⟨#[], #[.slice none 0 0, .slice none 0 0], []⟩).memory :=
  laidMet_of_run' 8 (by kernel_rfl) (by kernel_rfl)
theorem reads_diskActs (os : Os) {H : Type} (enc : TypeId × Value → H) : ∃ places, DataW.whole enc Tryd.prog ((world_diskActs os).forCall (fun _ _ => 0) ⟨#[], #[.slice none 0 0, .slice none 0 0], []⟩).memory Tryd.f6.params.toList Rows.diskActsSpec.vars false #[.slice none 0 0, .slice none 0 0].toList 12 = some ([.nil, .nil], [], places) :=
  ⟨[], by kernel_rfl⟩
set_option maxRecDepth 100000 in
theorem lifted_diskActs (os : Os) (started : os.Started) (H : Type) (enc : TypeId × Value → H) (F : Stop.Interp) :
    ReturnsInHanded {} Tryd.checked os 6 .any ((Rows.OpenSpec.upto Rows.diskActsSpec).preRow enc Tryd.prog Tryd.f6 Rows.diskActsUptoRow.domain false Rows.diskActsUptoRow.laid) (((Rows.OpenSpec.upto Rows.diskActsSpec).at F).post enc Tryd.prog Tryd.f6 false true false false) := by
  obtain ⟨places, hx⟩ := reads_diskActs os enc
  refine returnsInHanded_of_row (C := Tryd.checked) (s := Rows.OpenSpec.upto Rows.diskActsSpec) own_diskActs started (by kernel_rfl) Tryd.func6
    (witness_row_at (enc := enc) (C := Tryd.checked) false (world_diskActs os) #[.slice none 0 0, .slice none 0 0] rfl (by kernel_rfl) (by kernel_rfl) (by kernel_rfl)
      (OpenSpec.preRow_of_cond 12 hx (by kernel_rfl) (fun k hk => by cases hk; kernel_rfl) (by kernel_rfl) (met_diskActs os))) ?_
  intro W base args ds gs before hval hW _ hcond _ _ _ _
  have hb : Rows.uptoBulkAll (ds ++ gs) ≤ 1048576 := of_decide_eq_true (hcond _ rfl)
  exact law_contract (s := Rows.diskActsSpec) (bulk_diskActs H) law05_DiskActs_sok (by kernel_rfl) rfl rfl (by kernel_rfl : Tryd.prog.underlying 4 = some .bool) laid_diskActs (by kernel_rfl) hval hW
    (fun ds h => by match ds, h with | [d1, d2], _ => rfl) (fun x hw hx => plain_diskActs x hw (Nat.le_trans hx hb))
theorem said_diskActs : Rows.DiskActsUptoSaid :=
  OpenClaim.holds_of_cond 6 Tryd.f6 rfl rfl rfl rfl rfl rfl rfl ⟨rfl, rfl, rfl, rfl, rfl⟩ rfl rfl rfl rfl rfl (by kernel_rfl) Tryd.func6 (by kernel_rfl)
    (of_decide_eq_true (by kernel_rfl)) (by unfold Func.isWrapper; first | (rw [if_pos (by decide +kernel)]; kernel_rfl) | (rw [if_neg (by decide +kernel)]; exact ⟨rfl, rfl⟩))
    (fun os started H enc _ F => by rw [OpenClaim.pre_eq_preRow]; exact lifted_diskActs os started H enc F)
theorem stand_diskActs (f : FuncId) (fn : Func) (hf : Tryd.pinned.checked.prog.funcNamed "gudgeon/gudgeonlaw05.DiskActs" = some f) (hfn : Tryd.pinned.checked.prog.funcs[f]? = some fn) :
    false = Tryd.pinned.checked.prog.looks [] ∧ ∀ (j : Nat) t, fn.params[j]? = some t → Tryd.pinned.checked.prog.wantsStandIn t = false := by
  obtain rfl : f = 6 := Option.some.inj ((show Tryd.prog.funcNamed "gudgeon/gudgeonlaw05.DiskActs" = some 6 by kernel_rfl).symm.trans hf) |>.symm
  obtain rfl : fn = Tryd.f6 := (Option.some.inj (Tryd.func6.symm.trans hfn)).symm
  refine ⟨by kernel_rfl, fun j t ht => ?_⟩
  have hp : ∀ t ∈ ([30, 35] : List TypeId), Tryd.prog.wantsStandIn t = false := by
    intro t ht
    simp only [List.mem_cons, List.not_mem_nil, or_false] at ht
    rcases ht with rfl | rfl
    · exact (show Tryd.prog.wantsStandIn 30 = false by kernel_rfl)
    · exact (show Tryd.prog.wantsStandIn 35 = false by kernel_rfl)
  have hq : Tryd.f6.params = #[30, 35] := by kernel_rfl
  rw [hq] at ht
  exact hp t (by simpa using Array.mem_of_getElem? ht)
theorem proved_diskActs : Rows.DiskActsUptoCardSaid :=
  Claim7.holds_tied_plain_at .later [] _ _ _ _ said_diskActs (fun _ h => by cases h) (by kernel_rfl) (fun _ h => by cases h) diskActsUpto_row_tie rfl ⟨rfl, rfl⟩ (by kernel_rfl) rfl stand_diskActs (by kernel_rfl)
end Go.Proofs.YtababmeocedhiaaDoor.gg
