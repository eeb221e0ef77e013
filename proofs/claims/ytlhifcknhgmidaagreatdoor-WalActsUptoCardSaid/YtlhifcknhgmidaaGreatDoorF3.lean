/- WalActs: 'file by file what anything leaves that is done with a log', for every input of bulk at most 1048576, where the two tables of unicode/utf8 that the row lists begin as the program's text lays them (the card ties them). No condition beside the statement's own. -/
import Derived.Test.YtlhifcknhgmidaaGreatDoorCards
import Derived.Test.YtlhifcknhgmidaaGreatDoorTie
import Derived.Test.YtlhifcknhgmidaaGreatDoorP
import Derived.Test.YtlhifcknhgmidaaGreatDoorWR
import Derived.ProofKit
import Derived.OpenShut
import Derived.JoinedCond
import Derived.Deep.DeepHandedRow
import Derived.Lib.LaidTab
import Derived.Test.YtlhifcknhgmidaaGreatDoorLaidI
namespace Go.Proofs.YtlhifcknhgmidaaGreatDoor.gg
open Go Go.GG Go.Proofs Go.ChangeShapes Go.WideShapes Go.ChangeAt Go.RowKit
theorem own_walActs : ownKnob Tryz.prog.godebug = none := by kernel_rfl
theorem laid_walActs : laidOutB Tryz.prog = true := by kernel_rfl
def bulk_walActs (H : Type) : yO3 H where
 one := Rows.uptoBulk
 all := Rows.uptoBulkAll
 nil := by simp [Rows.uptoBulkAll]
 cons := fun d r => by simp [Rows.uptoBulkAll]
 lit := fun l => by cases l <;> simp [Rows.uptoBulk]
 str := fun l => by simp [Rows.uptoBulk]
 none := by simp [Rows.uptoBulk]
 slice := fun e r => by simp [Rows.uptoBulk]
 agg := fun p => by simp [Rows.uptoBulk]
theorem plain_walActs : ∀ x : RD PK.den ([.imm (.slice (.pair (.int .i64) (.pair (.int .u64) (.pair .bool (.pair (.slice (.int .u8)) (.slice (.int .i64)))))))] : List PK), xHd ([.imm (.slice (.pair (.int .i64) (.pair (.int .u64) (.pair .bool (.pair (.slice (.int .u8)) (.slice (.int .i64)))))))] : List PK) x → yH0 ([.imm (.slice (.pair (.int .i64) (.pair (.int .u64) (.pair .bool (.pair (.slice (.int .u8)) (.slice (.int .i64)))))))] : List PK) x ≤ 1048576 → ∃ k, zS3.F k x = some true := fun x hw hb => by
 have h1 := xM7 (t := .pair (.int .i64) (.pair (.int .u64) (.pair .bool (.pair (.slice (.int .u8)) (.slice (.int .i64)))))) x
 have h3 : (T.slice (.pair (.int .i64) (.pair (.int .u64) (.pair .bool (.pair (.slice (.int .u8)) (.slice (.int .i64))))))).bulk x + 0 ≤ 1048576 := hb
 exact xK5 x (by omega) (fun a ha => by
  have h := hw.1 a ha
  exact ⟨fun y hy => ⟨(h.2.2.2.1 y hy).1, Int.lt_add_one_of_le (h.2.2.2.1 y hy).2⟩, h.2.1.1, Int.lt_add_one_of_le h.2.1.2⟩)
noncomputable def world_walActs (os : Os) : World :=
 { World.holding Tryz.prog os ⟨#[.cells #[.string ⟨#[118, 97, 108, 117, 101, 32, 111, 117, 116, 32, 111, 102, 32, 114, 97, 110, 103, 101]⟩] 233 (0, 0), .cells #[.string ⟨#[105, 110, 118, 97, 108, 105, 100, 32, 115, 121, 110, 116, 97, 120]⟩] 233 (0, 0)], #[], []⟩ with heap := (((((((((World.holding Tryz.prog os ⟨#[.cells #[.string ⟨#[118, 97, 108, 117, 101, 32, 111, 117, 116, 32, 111, 102, 32, 114, 97, 110, 103, 101]⟩] 233 (0, 0), .cells #[.string ⟨#[105, 110, 118, 97, 108, 105, 100, 32, 115, 121, 110, 116, 97, 120]⟩] 233 (0, 0)], #[], []⟩).heap.modify 7 fun
  | .cells _ t frozen => .cells (([0, 1, 28, 2, 29, 14, 24, 3, 30, 22, 20, 15, 25, 17, 4, 8, 31, 27, 13, 23, 21, 19, 16, 7, 26, 12, 18, 6, 11, 5, 10, 9] : List Int).map fun n => Value.int .u8 n).toArray t frozen
  | o => o).modify 8 fun
  | .cells _ t frozen => .cells (([0, 1, 56, 2, 57, 49, 28, 3, 61, 58, 42, 50, 38, 29, 17, 4, 62, 47, 59, 36, 45, 43, 51, 22, 53, 39, 33, 30, 24, 18, 12, 5, 63, 55, 48, 27, 60, 41, 37, 16, 46, 35, 44, 21, 52, 32, 23, 11, 54, 26, 40, 15, 34, 20, 31, 10, 25, 14, 19, 9, 13, 8, 7, 6] : List Int).map fun n => Value.int .u8 n).toArray t frozen
  | o => o).modify 6 fun
  | .cells _ t frozen => .cells (([1, 10, 100, 1000, 10000, 100000, 1000000, 10000000, 100000000, 1000000000, 10000000000, 100000000000, 1000000000000, 10000000000000, 100000000000000, 1000000000000000, 10000000000000000, 100000000000000000, 1000000000000000000, 10000000000000000000] : List Int).map fun n => Value.int .u64 n).toArray t frozen
  | o => o).modify 5 fun
  | .cells _ t frozen => .cells (([128, 191, 160, 191, 128, 159, 144, 191, 128, 143, 0, 0, 0, 0, 0, 0, 0, 0, 0, 0, 0, 0, 0, 0, 0, 0, 0, 0, 0, 0, 0, 0] : List Int).map fun n => Value.int .u8 n).toArray t frozen
  | o => o).modify 3 fun
  | .cells _ t frozen => .cells (([0, 498536548, 997073096, 651767980, 1994146192, 1802195444, 1303535960, 1342533948, 3988292384, 4027552580, 3604390888, 3412177804, 2607071920, 2262029012, 2685067896, 3183342108] : List Int).map fun n => Value.int .u32 n).toArray t frozen
  | o => o).modify 2 fun
  | .cells _ t frozen => .cells ([Value.iface 231 (.pointer (some ⟨(World.settled Tryz.prog os).heap.size + 0, 0, none⟩))]).toArray t frozen
  | o => o).modify 1 fun
  | .cells _ t frozen => .cells ([Value.iface 231 (.pointer (some ⟨(World.settled Tryz.prog os).heap.size + 1, 0, none⟩))]).toArray t frozen
  | o => o).modify 4 fun
  | .cells _ t frozen => .cells (Go.Pinned.utf8FirstZ.map fun (n : Nat) => Value.int .u8 n).toArray t frozen
  | o => o) }
theorem met_walActs (os : Os) : laidMet Tryz.prog Rows.walActsUptoRow.laid ((world_walActs os).forCall (fun _ _ => 0) ⟨#[], #[.slice none 0 0], []⟩).memory :=
 laidMet_of_run' 8 (by kernel_rfl) (by kernel_rfl)
theorem reads_walActs (os : Os) {H : Type} (enc : TypeId × Value → H) : ∃ places, DataW.whole enc Tryz.prog ((world_walActs os).forCall (fun _ _ => 0) ⟨#[], #[.slice none 0 0], []⟩).memory Tryz.f4.params.toList Rows.walActsSpec.vars false #[.slice none 0 0].toList 12 = some ([.nil], [], places) :=
 ⟨[], by kernel_rfl⟩
theorem fine_walActs {W : World} (hL : laidMetH Tryz.prog Rows.walActsUptoRow.laid W) : yG.fine W (yHg W) := by
 intro g k zs e
 have hm := xAt e
 simp only [List.mem_cons, List.not_mem_nil, or_false, Prod.mk.injEq] at hm
 rcases hm with ⟨rfl, rfl, rfl⟩ | ⟨rfl, rfl, rfl⟩
 ·exact xAj (name := "gudgeon/crc.known") (by kernel_rfl) (xFq (name := "gudgeon/crc.known") (d := Rows.laid_gudgeon_crc_known) (g := 3) (t := 229) (e := 161) (n := 16) hL (by kernel_rfl) (List.mem_of_getElem? (i := 4) (by kernel_rfl)) (by kernel_rfl) (by kernel_rfl) (by kernel_rfl) (by kernel_rfl) (by kernel_rfl) (by kernel_rfl) (by kernel_rfl))
 ·exact xAj (name := "internal/strconv.uint64pow10") (by kernel_rfl) (xFq (name := "internal/strconv.uint64pow10") (d := Rows.laid_internal_strconv_uint64pow10) (g := 6) (t := 242) (e := 31) (n := 20) hL (by kernel_rfl) (List.mem_of_getElem? (i := 2) (by kernel_rfl)) (by kernel_rfl) (by kernel_rfl) (by kernel_rfl) (by kernel_rfl) (by kernel_rfl) (by kernel_rfl) (by kernel_rfl))
set_option maxRecDepth 100000 in
theorem lifted_walActs (os : Os) (started : os.Started) (H : Type) (enc : TypeId × Value → H) (F : Stop.Interp) :
 ReturnsInHanded {} Tryz.checked os 4 .any ((Rows.OpenSpec.upto Rows.walActsSpec).preRow enc Tryz.prog Tryz.f4 Rows.walActsUptoRow.domain false Rows.walActsUptoRow.laid) (((Rows.OpenSpec.upto Rows.walActsSpec).at F).post enc Tryz.prog Tryz.f4 false true false false) := by
 obtain ⟨places, hx⟩ := reads_walActs os enc
 refine returnsInHanded_of_row (C := Tryz.checked) (s := Rows.OpenSpec.upto Rows.walActsSpec) own_walActs started (by kernel_rfl) Tryz.func4
  (witness_row_at (enc := enc) (C := Tryz.checked) false (world_walActs os) #[.slice none 0 0] rfl (by kernel_rfl) (by kernel_rfl) (by kernel_rfl)
   (OpenSpec.preRow_of_cond 12 hx (by kernel_rfl) (fun k hk => by cases hk; kernel_rfl) (by kernel_rfl) (met_walActs os))) ?_
 intro W base args ds gs before hval hW _ hcond _ hL _ _
 have hb : Rows.uptoBulkAll (ds ++ gs) ≤ 1048576 := of_decide_eq_true (hcond _ rfl)
 exact xKu (s := Rows.walActsSpec) (bulk_walActs H) yWi (by kernel_rfl) rfl rfl (by kernel_rfl : Tryz.prog.underlying 4 = some .bool) laid_walActs (by kernel_rfl) hval hW
  (fun ds h => by match ds, h with | [d], _ => rfl) (fine_walActs hL) (fun x hw hx => plain_walActs x hw (Nat.le_trans hx hb))
theorem said_walActs : Rows.WalActsUptoSaid :=
 OpenClaim.holds_of_cond 4 Tryz.f4 rfl rfl rfl rfl rfl rfl rfl ⟨rfl, rfl, rfl, rfl, rfl⟩ rfl rfl rfl rfl rfl (by kernel_rfl) Tryz.func4 (by kernel_rfl)
  (of_decide_eq_true (by kernel_rfl)) (by unfold Func.isWrapper; first | (rw [if_pos (by decide +kernel)]; kernel_rfl) | (rw [if_neg (by decide +kernel)]; exact ⟨rfl, rfl⟩))
  (fun os started H enc _ F => by rw [OpenClaim.pre_eq_preRow]; exact lifted_walActs os started H enc F)
theorem stand_walActs (f : FuncId) (fn : Func) (hf : Tryz.pinned.checked.prog.funcNamed "gudgeon/gudgeonlaw06.WalActs" = some f) (hfn : Tryz.pinned.checked.prog.funcs[f]? = some fn) :
 true = Tryz.pinned.checked.prog.looks [] ∧ ∀ (j : Nat) t, fn.params[j]? = some t → Tryz.pinned.checked.prog.wantsStandIn t = false := by
 obtain rfl : f = 4 := Option.some.inj ((show Tryz.prog.funcNamed "gudgeon/gudgeonlaw06.WalActs" = some 4 by kernel_rfl).symm.trans hf) |>.symm
 obtain rfl : fn = Tryz.f4 := (Option.some.inj (Tryz.func4.symm.trans hfn)).symm
 refine ⟨by kernel_rfl, fun j t ht => ?_⟩
 have hp : ∀ t ∈ ([22] : List TypeId), Tryz.prog.wantsStandIn t = false := by
  intro t ht
  simp only [List.mem_cons, List.not_mem_nil, or_false] at ht
  rcases ht with rfl
  ·exact (show Tryz.prog.wantsStandIn 22 = false by kernel_rfl)
 have hq : Tryz.f4.params = #[22] := by kernel_rfl
 rw [hq] at ht
 exact hp t (by simpa using Array.mem_of_getElem? ht)
theorem proved_walActs : Rows.WalActsUptoCardSaid :=
 Claim7.holds_tied_plain_at .later [] _ _ _ _ said_walActs (fun _ h => by cases h) (by kernel_rfl) (fun _ h => by cases h) walActsUpto_row_tie rfl ⟨rfl, rfl⟩ (by kernel_rfl) rfl stand_walActs (by kernel_rfl)
end Go.Proofs.YtlhifcknhgmidaaGreatDoor.gg
