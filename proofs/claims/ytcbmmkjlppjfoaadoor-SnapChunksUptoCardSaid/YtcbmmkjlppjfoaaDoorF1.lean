/- SnapChunks: 'bytes in chunks', for every input of bulk at most 1048576, where the two tables of unicode/utf8 that the row lists begin as the program's text lays them (the card ties them). No condition beside the statement's own. -/
import Derived.Test.YtcbmmkjlppjfoaaDoorCards
import Derived.Test.YtcbmmkjlppjfoaaDoorTie
import Derived.Test.YtcbmmkjlppjfoaaDoorP
import Derived.Test.YtcbmmkjlppjfoaaDoorSC
import Derived.ProofKit
import Derived.OpenShut
import Derived.JoinedCond
import Derived.Deep.DeepHandedRow
import Derived.Lib.LaidTab
import Derived.Test.YtcbmmkjlppjfoaaDoorLaidI
namespace Go.Proofs.YtcbmmkjlppjfoaaDoor.gg
open Go Go.GG Go.Proofs Go.ChangeShapes Go.WideShapes Go.ChangeAt Go.RowKit
theorem own_snapChunks : ownKnob Tryd.prog.godebug = none := by kernel_rfl
theorem laid_snapChunks : laidOutB Tryd.prog = true := by kernel_rfl
def bulk_snapChunks (H : Type) : Bulk H where
  one := Rows.uptoBulk
  all := Rows.uptoBulkAll
  nil := by simp [Rows.uptoBulkAll]
  cons := fun d r => by simp [Rows.uptoBulkAll]
  lit := fun l => by cases l <;> simp [Rows.uptoBulk]
  str := fun l => by simp [Rows.uptoBulk]
  none := by simp [Rows.uptoBulk]
  slice := fun e r => by simp [Rows.uptoBulk]
  agg := fun p => by simp [Rows.uptoBulk]
theorem plain_snapChunks : ∀ x : RD PK.den ([.imm (.slice (.int .u8)), .imm (.int .i64), .imm (.int .i64)] : List PK), wfAll ([.imm (.slice (.int .u8)), .imm (.int .i64), .imm (.int .i64)] : List PK) x → bulkAll ([.imm (.slice (.int .u8)), .imm (.int .i64), .imm (.int .i64)] : List PK) x ≤ 1048576 → ∃ k, law08_SnapChunks_spec.F k x = some true := fun x hw _ => law_SnapChunks x.1 x.2.1 x.2.2 hw.2.1.1 hw.2.1.2 hw.2.2.1.1 hw.2.2.1.2
/-- A world for the witness: the settled one, the two tables holding what the row lists. -/
noncomputable def world_snapChunks (os : Os) : World :=
  { World.holding Tryd.prog os ⟨#[], #[], []⟩ with heap := (((((((World.holding Tryd.prog os ⟨#[], #[], []⟩).heap.modify 4 fun
      | .cells _ t frozen => .cells (([0, 1, 28, 2, 29, 14, 24, 3, 30, 22, 20, 15, 25, 17, 4, 8, 31, 27, 13, 23, 21, 19, 16, 7, 26, 12, 18, 6, 11, 5, 10, 9] : List Int).map fun n => Value.int .u8 n).toArray t frozen
      | o => o).modify 5 fun
      | .cells _ t frozen => .cells (([0, 1, 56, 2, 57, 49, 28, 3, 61, 58, 42, 50, 38, 29, 17, 4, 62, 47, 59, 36, 45, 43, 51, 22, 53, 39, 33, 30, 24, 18, 12, 5, 63, 55, 48, 27, 60, 41, 37, 16, 46, 35, 44, 21, 52, 32, 23, 11, 54, 26, 40, 15, 34, 20, 31, 10, 25, 14, 19, 9, 13, 8, 7, 6] : List Int).map fun n => Value.int .u8 n).toArray t frozen
      | o => o).modify 1 fun
      | .cells _ t frozen => .cells (([1, 10, 100, 1000, 10000, 100000, 1000000, 10000000, 100000000, 1000000000, 10000000000, 100000000000, 1000000000000, 10000000000000, 100000000000000, 1000000000000000, 10000000000000000, 100000000000000000, 1000000000000000000, 10000000000000000000] : List Int).map fun n => Value.int .u64 n).toArray t frozen
      | o => o).modify 3 fun
      | .cells _ t frozen => .cells (([128, 191, 160, 191, 128, 159, 144, 191, 128, 143, 0, 0, 0, 0, 0, 0, 0, 0, 0, 0, 0, 0, 0, 0, 0, 0, 0, 0, 0, 0, 0, 0] : List Int).map fun n => Value.int .u8 n).toArray t frozen
      | o => o).modify 0 fun
      | .cells _ t frozen => .cells (([0, 498536548, 997073096, 651767980, 1994146192, 1802195444, 1303535960, 1342533948, 3988292384, 4027552580, 3604390888, 3412177804, 2607071920, 2262029012, 2685067896, 3183342108] : List Int).map fun n => Value.int .u32 n).toArray t frozen
      | o => o).modify 2 fun
      | .cells _ t frozen => .cells (Go.Pinned.utf8FirstZ.map fun (n : Nat) => Value.int .u8 n).toArray t frozen
      | o => o) }
theorem met_snapChunks (os : Os) : laidMet Tryd.prog Rows.snapChunksUptoRow.laid ((world_snapChunks os).forCall (fun _ _ => 0) ⟨#[], #[.slice none 0 0, .int .i64 0, .int .i64 0], []⟩).memory :=
  laidMet_of_run' 8 (by kernel_rfl) (by kernel_rfl)
theorem reads_snapChunks (os : Os) {H : Type} (enc : TypeId × Value → H) : ∃ places, DataW.whole enc Tryd.prog ((world_snapChunks os).forCall (fun _ _ => 0) ⟨#[], #[.slice none 0 0, .int .i64 0, .int .i64 0], []⟩).memory Tryd.f3.params.toList Rows.snapChunksSpec.vars false #[.slice none 0 0, .int .i64 0, .int .i64 0].toList 12 = some ([.nil, .lit (.int .i64 0), .lit (.int .i64 0)], [], places) :=
  ⟨[], by kernel_rfl⟩
theorem fine_snapChunks {W : World} (hL : laidMetH Tryd.prog Rows.snapChunksUptoRow.laid W) : Tabs.fine W (okAll W) := by
  intro g k zs e
  have hm := tabsOf_mem e
  simp only [List.mem_cons, List.not_mem_nil, or_false, Prod.mk.injEq] at hm
  rcases hm with ⟨rfl, rfl, rfl⟩ | ⟨rfl, rfl, rfl⟩
  · exact tab_stands (name := "gudgeon/crc.known") (by kernel_rfl) (tabIs_mem (name := "gudgeon/crc.known") (d := Rows.laid_gudgeon_crc_known) (g := 0) (t := 104) (e := 83) (n := 16) hL (by kernel_rfl) (List.mem_of_getElem? (i := 4) (by kernel_rfl)) (by kernel_rfl) (by kernel_rfl) (by kernel_rfl) (by kernel_rfl) (by kernel_rfl) (by kernel_rfl) (by kernel_rfl))
  · exact tab_stands (name := "internal/strconv.uint64pow10") (by kernel_rfl) (tabIs_mem (name := "internal/strconv.uint64pow10") (d := Rows.laid_internal_strconv_uint64pow10) (g := 1) (t := 120) (e := 34) (n := 20) hL (by kernel_rfl) (List.mem_of_getElem? (i := 2) (by kernel_rfl)) (by kernel_rfl) (by kernel_rfl) (by kernel_rfl) (by kernel_rfl) (by kernel_rfl) (by kernel_rfl) (by kernel_rfl))
set_option maxRecDepth 100000 in
theorem lifted_snapChunks (os : Os) (started : os.Started) (H : Type) (enc : TypeId × Value → H) (F : Stop.Interp) :
    ReturnsInHanded {} Tryd.checked os 3 .any ((Rows.OpenSpec.upto Rows.snapChunksSpec).preRow enc Tryd.prog Tryd.f3 Rows.snapChunksUptoRow.domain false Rows.snapChunksUptoRow.laid) (((Rows.OpenSpec.upto Rows.snapChunksSpec).at F).post enc Tryd.prog Tryd.f3 false true false false) := by
  obtain ⟨places, hx⟩ := reads_snapChunks os enc
  refine returnsInHanded_of_row (C := Tryd.checked) (s := Rows.OpenSpec.upto Rows.snapChunksSpec) own_snapChunks started (by kernel_rfl) Tryd.func3
    (witness_row_at (enc := enc) (C := Tryd.checked) false (world_snapChunks os) #[.slice none 0 0, .int .i64 0, .int .i64 0] rfl (by kernel_rfl) (by kernel_rfl) (by kernel_rfl)
      (OpenSpec.preRow_of_cond 12 hx (by kernel_rfl) (fun k hk => by cases hk; kernel_rfl) (by kernel_rfl) (met_snapChunks os))) ?_
  intro W base args ds gs before hval hW _ hcond _ hL _ _
  have hb : Rows.uptoBulkAll (ds ++ gs) ≤ 1048576 := of_decide_eq_true (hcond _ rfl)
  exact law_contract (s := Rows.snapChunksSpec) (bulk_snapChunks H) law08_SnapChunks_sok (by kernel_rfl) rfl rfl (by kernel_rfl : Tryd.prog.underlying 4 = some .bool) laid_snapChunks (by kernel_rfl) hval hW
    (fun ds h => by match ds, h with | [d1, d2, d3], _ => rfl) (fine_snapChunks hL) (fun x hw hx => plain_snapChunks x hw (Nat.le_trans hx hb))
theorem said_snapChunks : Rows.SnapChunksUptoSaid :=
  OpenClaim.holds_of_cond 3 Tryd.f3 rfl rfl rfl rfl rfl rfl rfl ⟨rfl, rfl, rfl, rfl, rfl⟩ rfl rfl rfl rfl rfl (by kernel_rfl) Tryd.func3 (by kernel_rfl)
    (of_decide_eq_true (by kernel_rfl)) (by unfold Func.isWrapper; first | (rw [if_pos (by decide +kernel)]; kernel_rfl) | (rw [if_neg (by decide +kernel)]; exact ⟨rfl, rfl⟩))
    (fun os started H enc _ F => by rw [OpenClaim.pre_eq_preRow]; exact lifted_snapChunks os started H enc F)
theorem stand_snapChunks (f : FuncId) (fn : Func) (hf : Tryd.pinned.checked.prog.funcNamed "gudgeon/gudgeonlaw08.SnapChunks" = some f) (hfn : Tryd.pinned.checked.prog.funcs[f]? = some fn) :
    false = Tryd.pinned.checked.prog.looks [] ∧ ∀ (j : Nat) t, fn.params[j]? = some t → Tryd.pinned.checked.prog.wantsStandIn t = false := by
  obtain rfl : f = 3 := Option.some.inj ((show Tryd.prog.funcNamed "gudgeon/gudgeonlaw08.SnapChunks" = some 3 by kernel_rfl).symm.trans hf) |>.symm
  obtain rfl : fn = Tryd.f3 := (Option.some.inj (Tryd.func3.symm.trans hfn)).symm
  refine ⟨by kernel_rfl, fun j t ht => ?_⟩
  have hp : ∀ t ∈ ([22, 3, 3] : List TypeId), Tryd.prog.wantsStandIn t = false := by
    intro t ht
    simp only [List.mem_cons, List.not_mem_nil, or_false] at ht
    rcases ht with rfl | rfl | rfl
    · exact (show Tryd.prog.wantsStandIn 22 = false by kernel_rfl)
    · exact (show Tryd.prog.wantsStandIn 3 = false by kernel_rfl)
    · exact (show Tryd.prog.wantsStandIn 3 = false by kernel_rfl)
  have hq : Tryd.f3.params = #[22, 3, 3] := by kernel_rfl
  rw [hq] at ht
  exact hp t (by simpa using Array.mem_of_getElem? ht)
theorem proved_snapChunks : Rows.SnapChunksUptoCardSaid :=
  Claim7.holds_tied_plain_at .later [] _ _ _ _ said_snapChunks (fun _ h => by cases h) (by kernel_rfl) (fun _ h => by cases h) snapChunksUpto_row_tie rfl ⟨rfl, rfl⟩ (by kernel_rfl) rfl stand_snapChunks (by kernel_rfl)
end Go.Proofs.YtcbmmkjlppjfoaaDoor.gg
