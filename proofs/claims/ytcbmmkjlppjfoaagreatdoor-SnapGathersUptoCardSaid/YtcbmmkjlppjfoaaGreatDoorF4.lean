/- SnapGathers: 'the theorem of chunks', for every input of bulk at most 1048576, where the two tables of unicode/utf8 that the row lists begin as the program's text lays them (the card ties them). No condition beside the statement's own. -/
import Derived.Test.YtcbmmkjlppjfoaaGreatDoorCards
import Derived.Test.YtcbmmkjlppjfoaaGreatDoorTie
import Derived.Test.YtcbmmkjlppjfoaaGreatDoorP
import Derived.Test.YtcbmmkjlppjfoaaGreatDoorSG
import Derived.ProofKit
import Derived.OpenShut
import Derived.JoinedCond
import Derived.Deep.DeepHandedRow
import Derived.Lib.LaidTab
import Derived.Test.YtcbmmkjlppjfoaaGreatDoorLaidI
namespace Go.Proofs.YtcbmmkjlppjfoaaGreatDoor.gg
open Go Go.GG Go.Proofs Go.ChangeShapes Go.WideShapes Go.ChangeAt Go.RowKit
theorem own_snapGathers : ownKnob Tryz.prog.godebug = none := by kernel_rfl
theorem laid_snapGathers : laidOutB Tryz.prog = true := by kernel_rfl
def bulk_snapGathers (H : Type) : Bulk H where
  one := Rows.uptoBulk
  all := Rows.uptoBulkAll
  nil := by simp [Rows.uptoBulkAll]
  cons := fun d r => by simp [Rows.uptoBulkAll]
  lit := fun l => by cases l <;> simp [Rows.uptoBulk]
  str := fun l => by simp [Rows.uptoBulk]
  none := by simp [Rows.uptoBulk]
  slice := fun e r => by simp [Rows.uptoBulk]
  agg := fun p => by simp [Rows.uptoBulk]
theorem plain_snapGathers : ∀ x : RD PK.den ([.imm (.slice (.int .u8)), .imm (.slice (.pair (.int .i64) (.pair (.slice (.int .u8)) .bool)))] : List PK), wfAll ([.imm (.slice (.int .u8)), .imm (.slice (.pair (.int .i64) (.pair (.slice (.int .u8)) .bool)))] : List PK) x → bulkAll ([.imm (.slice (.int .u8)), .imm (.slice (.pair (.int .i64) (.pair (.slice (.int .u8)) .bool)))] : List PK) x ≤ 1048576 → ∃ k, law08_SnapGathers_spec.F k x = some true := fun x hw hb => law_SnapGathers x.1 x.2 (by
    have h1 := bulk_slice (t := .int .u8) x.1
    have h3 : (T.slice (.int .u8)).bulk x.1 + ((T.slice (.pair (.int .i64) (.pair (.slice (.int .u8)) .bool))).bulk x.2 + 0) ≤ 1048576 := hb
    omega) (fun y hy => by have h := hw.1 y hy; exact ⟨h.1, Int.lt_add_one_of_le h.2⟩) (fun p hp => by
    have h := hw.2.1 p hp
    exact ⟨⟨h.1.1, h.1.2⟩, (fun y hy => ⟨(h.2.1 y hy).1, Int.lt_add_one_of_le (h.2.1 y hy).2⟩), put_len (b := x.2) (Nat.le_trans (Nat.le_trans (Nat.le_add_right _ 0) (Nat.le_add_left _ ((T.slice (.int .u8)).bulk x.1))) hb) hp⟩)
/-- A world for the witness: the settled one, the two tables holding what the row lists. -/
noncomputable def world_snapGathers (os : Os) : World :=
  { World.holding Tryz.prog os ⟨#[], #[], []⟩ with heap := (((((((World.holding Tryz.prog os ⟨#[], #[], []⟩).heap.modify 5 fun
      | .cells _ t frozen => .cells (([0, 1, 28, 2, 29, 14, 24, 3, 30, 22, 20, 15, 25, 17, 4, 8, 31, 27, 13, 23, 21, 19, 16, 7, 26, 12, 18, 6, 11, 5, 10, 9] : List Int).map fun n => Value.int .u8 n).toArray t frozen
      | o => o).modify 6 fun
      | .cells _ t frozen => .cells (([0, 1, 56, 2, 57, 49, 28, 3, 61, 58, 42, 50, 38, 29, 17, 4, 62, 47, 59, 36, 45, 43, 51, 22, 53, 39, 33, 30, 24, 18, 12, 5, 63, 55, 48, 27, 60, 41, 37, 16, 46, 35, 44, 21, 52, 32, 23, 11, 54, 26, 40, 15, 34, 20, 31, 10, 25, 14, 19, 9, 13, 8, 7, 6] : List Int).map fun n => Value.int .u8 n).toArray t frozen
      | o => o).modify 3 fun
      | .cells _ t frozen => .cells (([1, 10, 100, 1000, 10000, 100000, 1000000, 10000000, 100000000, 1000000000, 10000000000, 100000000000, 1000000000000, 10000000000000, 100000000000000, 1000000000000000, 10000000000000000, 100000000000000000, 1000000000000000000, 10000000000000000000] : List Int).map fun n => Value.int .u64 n).toArray t frozen
      | o => o).modify 2 fun
      | .cells _ t frozen => .cells (([128, 191, 160, 191, 128, 159, 144, 191, 128, 143, 0, 0, 0, 0, 0, 0, 0, 0, 0, 0, 0, 0, 0, 0, 0, 0, 0, 0, 0, 0, 0, 0] : List Int).map fun n => Value.int .u8 n).toArray t frozen
      | o => o).modify 0 fun
      | .cells _ t frozen => .cells (([0, 498536548, 997073096, 651767980, 1994146192, 1802195444, 1303535960, 1342533948, 3988292384, 4027552580, 3604390888, 3412177804, 2607071920, 2262029012, 2685067896, 3183342108] : List Int).map fun n => Value.int .u32 n).toArray t frozen
      | o => o).modify 1 fun
      | .cells _ t frozen => .cells (Go.Pinned.utf8FirstZ.map fun (n : Nat) => Value.int .u8 n).toArray t frozen
      | o => o) }
theorem met_snapGathers (os : Os) : laidMet Tryz.prog Rows.snapGathersUptoRow.laid ((world_snapGathers os).forCall (fun _ _ => 0) ⟨#[], #[.slice none 0 0, .slice none 0 0], []⟩).memory :=
  laidMet_of_run' 8 (by kernel_rfl) (by kernel_rfl)
theorem reads_snapGathers (os : Os) {H : Type} (enc : TypeId × Value → H) : ∃ places, DataW.whole enc Tryz.prog ((world_snapGathers os).forCall (fun _ _ => 0) ⟨#[], #[.slice none 0 0, .slice none 0 0], []⟩).memory Tryz.f5.params.toList Rows.snapGathersSpec.vars false #[.slice none 0 0, .slice none 0 0].toList 12 = some ([.nil, .nil], [], places) :=
  ⟨[], by kernel_rfl⟩
theorem fine_snapGathers {W : World} (hL : laidMetH Tryz.prog Rows.snapGathersUptoRow.laid W) : Tabs.fine W (okAll W) := by
  intro g k zs e
  have hm := tabsOf_mem e
  simp only [List.mem_cons, List.not_mem_nil, or_false, Prod.mk.injEq] at hm
  rcases hm with ⟨rfl, rfl, rfl⟩ | ⟨rfl, rfl, rfl⟩
  · exact tab_stands (name := "gudgeon/crc.known") (by kernel_rfl) (tabIs_mem (name := "gudgeon/crc.known") (d := Rows.laid_gudgeon_crc_known) (g := 0) (t := 177) (e := 147) (n := 16) hL (by kernel_rfl) (List.mem_of_getElem? (i := 4) (by kernel_rfl)) (by kernel_rfl) (by kernel_rfl) (by kernel_rfl) (by kernel_rfl) (by kernel_rfl) (by kernel_rfl) (by kernel_rfl))
  · exact tab_stands (name := "internal/strconv.uint64pow10") (by kernel_rfl) (tabIs_mem (name := "internal/strconv.uint64pow10") (d := Rows.laid_internal_strconv_uint64pow10) (g := 3) (t := 191) (e := 35) (n := 20) hL (by kernel_rfl) (List.mem_of_getElem? (i := 2) (by kernel_rfl)) (by kernel_rfl) (by kernel_rfl) (by kernel_rfl) (by kernel_rfl) (by kernel_rfl) (by kernel_rfl) (by kernel_rfl))
set_option maxRecDepth 100000 in
theorem lifted_snapGathers (os : Os) (started : os.Started) (H : Type) (enc : TypeId × Value → H) (F : Stop.Interp) :
    ReturnsInHanded {} Tryz.checked os 5 .any ((Rows.OpenSpec.upto Rows.snapGathersSpec).preRow enc Tryz.prog Tryz.f5 Rows.snapGathersUptoRow.domain false Rows.snapGathersUptoRow.laid) (((Rows.OpenSpec.upto Rows.snapGathersSpec).at F).post enc Tryz.prog Tryz.f5 false true false false) := by
  obtain ⟨places, hx⟩ := reads_snapGathers os enc
  refine returnsInHanded_of_row (C := Tryz.checked) (s := Rows.OpenSpec.upto Rows.snapGathersSpec) own_snapGathers started (by kernel_rfl) Tryz.func5
    (witness_row_at (enc := enc) (C := Tryz.checked) false (world_snapGathers os) #[.slice none 0 0, .slice none 0 0] rfl (by kernel_rfl) (by kernel_rfl) (by kernel_rfl)
      (OpenSpec.preRow_of_cond 12 hx (by kernel_rfl) (fun k hk => by cases hk; kernel_rfl) (by kernel_rfl) (met_snapGathers os))) ?_
  intro W base args ds gs before hval hW _ hcond _ hL _ _
  have hb : Rows.uptoBulkAll (ds ++ gs) ≤ 1048576 := of_decide_eq_true (hcond _ rfl)
  exact law_contract (s := Rows.snapGathersSpec) (bulk_snapGathers H) law08_SnapGathers_sok (by kernel_rfl) rfl rfl (by kernel_rfl : Tryz.prog.underlying 4 = some .bool) laid_snapGathers (by kernel_rfl) hval hW
    (fun ds h => by match ds, h with | [d1, d2], _ => rfl) (fine_snapGathers hL) (fun x hw hx => plain_snapGathers x hw (Nat.le_trans hx hb))
theorem said_snapGathers : Rows.SnapGathersUptoSaid :=
  OpenClaim.holds_of_cond 5 Tryz.f5 rfl rfl rfl rfl rfl rfl rfl ⟨rfl, rfl, rfl, rfl, rfl⟩ rfl rfl rfl rfl rfl (by kernel_rfl) Tryz.func5 (by kernel_rfl)
    (of_decide_eq_true (by kernel_rfl)) (by unfold Func.isWrapper; first | (rw [if_pos (by decide +kernel)]; kernel_rfl) | (rw [if_neg (by decide +kernel)]; exact ⟨rfl, rfl⟩))
    (fun os started H enc _ F => by rw [OpenClaim.pre_eq_preRow]; exact lifted_snapGathers os started H enc F)
theorem stand_snapGathers (f : FuncId) (fn : Func) (hf : Tryz.pinned.checked.prog.funcNamed "gudgeon/gudgeonlaw08.SnapGathers" = some f) (hfn : Tryz.pinned.checked.prog.funcs[f]? = some fn) :
    false = Tryz.pinned.checked.prog.looks [] ∧ ∀ (j : Nat) t, fn.params[j]? = some t → Tryz.pinned.checked.prog.wantsStandIn t = false := by
  obtain rfl : f = 5 := Option.some.inj ((show Tryz.prog.funcNamed "gudgeon/gudgeonlaw08.SnapGathers" = some 5 by kernel_rfl).symm.trans hf) |>.symm
  obtain rfl : fn = Tryz.f5 := (Option.some.inj (Tryz.func5.symm.trans hfn)).symm
  refine ⟨by kernel_rfl, fun j t ht => ?_⟩
  have hp : ∀ t ∈ ([22, 48] : List TypeId), Tryz.prog.wantsStandIn t = false := by
    intro t ht
    simp only [List.mem_cons, List.not_mem_nil, or_false] at ht
    rcases ht with rfl | rfl
    · exact (show Tryz.prog.wantsStandIn 22 = false by kernel_rfl)
    · exact (show Tryz.prog.wantsStandIn 48 = false by kernel_rfl)
  have hq : Tryz.f5.params = #[22, 48] := by kernel_rfl
  rw [hq] at ht
  exact hp t (by simpa using Array.mem_of_getElem? ht)
theorem proved_snapGathers : Rows.SnapGathersUptoCardSaid :=
  Claim7.holds_tied_plain_at .later [] _ _ _ _ said_snapGathers (fun _ h => by cases h) (by kernel_rfl) (fun _ h => by cases h) snapGathersUpto_row_tie rfl ⟨rfl, rfl⟩ (by kernel_rfl) rfl stand_snapGathers (by kernel_rfl)
end Go.Proofs.YtcbmmkjlppjfoaaGreatDoor.gg
