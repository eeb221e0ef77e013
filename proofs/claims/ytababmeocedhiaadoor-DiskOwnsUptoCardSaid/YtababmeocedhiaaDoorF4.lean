/- DiskOwns: 'what a disk hands out is its own no more', for every input of bulk at most 1048576, where the two tables of unicode/utf8 that the row lists begin as the program's text lays them (the card ties them). No condition beside the statement's own. -/
import Derived.Test.YtababmeocedhiaaDoorCards
import Derived.Test.YtababmeocedhiaaDoorTie
import Derived.Test.YtababmeocedhiaaDoorP
import Derived.Test.YtababmeocedhiaaDoorQ
import Derived.ProofKit
import Derived.OpenShut
import Derived.JoinedCond
import Derived.Deep.DeepHandedRow
import Derived.Lib.LaidTab
import Derived.Test.YtababmeocedhiaaDoorLaidI
namespace Go.Proofs.YtababmeocedhiaaDoor.gg
open Go Go.GG Go.Proofs Go.ChangeShapes Go.WideShapes Go.ChangeAt Go.RowKit
theorem own_diskOwns : ownKnob Tryd.prog.godebug = none := by kernel_rfl
theorem laid_diskOwns : laidOutB Tryd.prog = true := by kernel_rfl
def bulk_diskOwns (H : Type) : Bulk H where
  one := Rows.uptoBulk
  all := Rows.uptoBulkAll
  nil := by simp [Rows.uptoBulkAll]
  cons := fun d r => by simp [Rows.uptoBulkAll]
  lit := fun l => by cases l <;> simp [Rows.uptoBulk]
  str := fun l => by simp [Rows.uptoBulk]
  none := by simp [Rows.uptoBulk]
  slice := fun e r => by simp [Rows.uptoBulk]
  agg := fun p => by simp [Rows.uptoBulk]
theorem plain_diskOwns : ∀ x : RD PK.den ([.imm .str, .imm (.slice (.int .u8))] : List PK), wfAll ([.imm .str, .imm (.slice (.int .u8))] : List PK) x → bulkAll ([.imm .str, .imm (.slice (.int .u8))] : List PK) x ≤ 1048576 → ∃ k, law05_DiskOwns_spec.F k x = some true := fun x _ hb => law_DiskOwns x.1 x.2 (by
    have h1 := bulk_slice (t := .int .u8) x.2
    have h3 : T.str.bulk x.1 + ((T.slice (.int .u8)).bulk x.2 + 0) ≤ 1048576 := hb
    omega)
/-- A world for the witness: the settled one, the two tables holding what the row lists. -/
noncomputable def world_diskOwns (os : Os) : World :=
  { World.holding Tryd.prog os ⟨#[], #[], []⟩ with heap := (((World.holding Tryd.prog os ⟨#[], #[], []⟩).heap.modify 1 fun
      | .cells _ t frozen => .cells (([128, 191, 160, 191, 128, 159, 144, 191, 128, 143, 0, 0, 0, 0, 0, 0, 0, 0, 0, 0, 0, 0, 0, 0, 0, 0, 0, 0, 0, 0, 0, 0] : List Int).map fun n => Value.int .u8 n).toArray t frozen
      | o => o).modify 0 fun
      | .cells _ t frozen => .cells (Go.Pinned.utf8FirstZ.map fun (n : Nat) => Value.int .u8 n).toArray t frozen
      | o => o) }
theorem met_diskOwns (os : Os) : laidMet Tryd.prog Rows.diskOwnsUptoRow.laid ((world_diskOwns os).forCall (fun _ _ => 0) ⟨#[], #[.string .empty, .slice none 0 0], []⟩).memory :=
  laidMet_of_run' 8 (by kernel_rfl) (by kernel_rfl)
theorem reads_diskOwns (os : Os) {H : Type} (enc : TypeId × Value → H) : ∃ places, DataW.whole enc Tryd.prog ((world_diskOwns os).forCall (fun _ _ => 0) ⟨#[], #[.string .empty, .slice none 0 0], []⟩).memory Tryd.f3.params.toList Rows.diskOwnsSpec.vars false #[.string .empty, .slice none 0 0].toList 12 = some ([.lit (.string []), .nil], [], places) :=
  ⟨[], by kernel_rfl⟩
theorem fine_diskOwns {W : World} (hL : laidMetH Tryd.prog Rows.diskOwnsUptoRow.laid W) : Tabs.fine W (okAll W) := by
  intro g k zs e
  exact absurd (tabsOf_mem e) (by simp)
set_option maxRecDepth 100000 in
theorem lifted_diskOwns (os : Os) (started : os.Started) (H : Type) (enc : TypeId × Value → H) (F : Stop.Interp) :
    ReturnsInHanded {} Tryd.checked os 3 .any ((Rows.OpenSpec.upto Rows.diskOwnsSpec).preRow enc Tryd.prog Tryd.f3 Rows.diskOwnsUptoRow.domain false Rows.diskOwnsUptoRow.laid) (((Rows.OpenSpec.upto Rows.diskOwnsSpec).at F).post enc Tryd.prog Tryd.f3 false true false false) := by
  obtain ⟨places, hx⟩ := reads_diskOwns os enc
  refine returnsInHanded_of_row (C := Tryd.checked) (s := Rows.OpenSpec.upto Rows.diskOwnsSpec) own_diskOwns started (by kernel_rfl) Tryd.func3
    (witness_row_at (enc := enc) (C := Tryd.checked) false (world_diskOwns os) #[.string .empty, .slice none 0 0] rfl (by kernel_rfl) (by kernel_rfl) (by kernel_rfl)
      (OpenSpec.preRow_of_cond 12 hx (by kernel_rfl) (fun k hk => by cases hk; kernel_rfl) (by kernel_rfl) (met_diskOwns os))) ?_
  intro W base args ds gs before hval hW _ hcond _ hL _ _
  have hb : Rows.uptoBulkAll (ds ++ gs) ≤ 1048576 := of_decide_eq_true (hcond _ rfl)
  exact law_contract (s := Rows.diskOwnsSpec) (bulk_diskOwns H) law05_DiskOwns_sok (by kernel_rfl) rfl rfl (by kernel_rfl : Tryd.prog.underlying 4 = some .bool) laid_diskOwns (by kernel_rfl) hval hW
    (fun ds h => by match ds, h with | [d1, d2], _ => rfl) (fine_diskOwns hL) (fun x hw hx => plain_diskOwns x hw (Nat.le_trans hx hb))
theorem said_diskOwns : Rows.DiskOwnsUptoSaid :=
  OpenClaim.holds_of_cond 3 Tryd.f3 rfl rfl rfl rfl rfl rfl rfl ⟨rfl, rfl, rfl, rfl, rfl⟩ rfl rfl rfl rfl rfl (by kernel_rfl) Tryd.func3 (by kernel_rfl)
    (of_decide_eq_true (by kernel_rfl)) (by unfold Func.isWrapper; first | (rw [if_pos (by decide +kernel)]; kernel_rfl) | (rw [if_neg (by decide +kernel)]; exact ⟨rfl, rfl⟩))
    (fun os started H enc _ F => by rw [OpenClaim.pre_eq_preRow]; exact lifted_diskOwns os started H enc F)
theorem stand_diskOwns (f : FuncId) (fn : Func) (hf : Tryd.pinned.checked.prog.funcNamed "gudgeon/gudgeonlaw05.DiskOwns" = some f) (hfn : Tryd.pinned.checked.prog.funcs[f]? = some fn) :
    false = Tryd.pinned.checked.prog.looks [] ∧ ∀ (j : Nat) t, fn.params[j]? = some t → Tryd.pinned.checked.prog.wantsStandIn t = false := by
  obtain rfl : f = 3 := Option.some.inj ((show Tryd.prog.funcNamed "gudgeon/gudgeonlaw05.DiskOwns" = some 3 by kernel_rfl).symm.trans hf) |>.symm
  obtain rfl : fn = Tryd.f3 := (Option.some.inj (Tryd.func3.symm.trans hfn)).symm
  refine ⟨by kernel_rfl, fun j t ht => ?_⟩
  have hp : ∀ t ∈ ([9, 22] : List TypeId), Tryd.prog.wantsStandIn t = false := by
    intro t ht
    simp only [List.mem_cons, List.not_mem_nil, or_false] at ht
    rcases ht with rfl | rfl
    · exact (show Tryd.prog.wantsStandIn 9 = false by kernel_rfl)
    · exact (show Tryd.prog.wantsStandIn 22 = false by kernel_rfl)
  have hq : Tryd.f3.params = #[9, 22] := by kernel_rfl
  rw [hq] at ht
  exact hp t (by simpa using Array.mem_of_getElem? ht)
theorem proved_diskOwns : Rows.DiskOwnsUptoCardSaid :=
  Claim7.holds_tied_plain_at .later [] _ _ _ _ said_diskOwns (fun _ h => by cases h) (by kernel_rfl) (fun _ h => by cases h) diskOwnsUpto_row_tie rfl ⟨rfl, rfl⟩ (by kernel_rfl) rfl stand_diskOwns (by kernel_rfl)
end Go.Proofs.YtababmeocedhiaaDoor.gg
