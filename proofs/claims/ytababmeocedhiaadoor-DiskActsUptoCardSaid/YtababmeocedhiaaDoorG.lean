/- What the functions compute: printed by a program of our own. -/
import Derived.Test.YtababmeocedhiaaDoorK6
import Derived.Test.YtababmeocedhiaaDoorK5
import Derived.Test.YtababmeocedhiaaDoorTrimI
import Derived.Test.YtababmeocedhiaaDoorKeysI
open Go Go.GG
set_option linter.unusedVariables false
namespace Go.Proofs.YtababmeocedhiaaDoor.gg
def tab : Tab := [(3, ⟨.int .i64, 1, 8, [.int .i64 0], some (.int .i64), false⟩),
  (4, ⟨.bool, 1, 1, [.bool false], some .bool, false⟩),
  (5, ⟨.int .u8, 1, 1, [.int .u8 0], some (.int .u8), false⟩),
  (9, ⟨.str, 1, 16, [.string ⟨#[]⟩], some .str, false⟩),
  (22, ⟨.slice 5, 1, 24, [.slice none 0 0], some (.slice (.int .u8)), false⟩),
  (23, ⟨.ptr 46, 1, 8, [.pointer none], none, false⟩),
  (25, ⟨.int .i64, 1, 8, [.int .i64 0], some (.int .i64), false⟩),
  (30, ⟨.slice 33, 1, 24, [.slice none 0 0], some (.slice (.pair .str (.pair (.slice (.int .u8)) (.int .i64)))), false⟩),
  (33, ⟨.struct [(9, 0), (22, 1), (3, 2)], 3, 48, [.string ⟨#[]⟩, .slice none 0 0, .int .i64 0], some (.pair .str (.pair (.slice (.int .u8)) (.int .i64))), false⟩),
  (35, ⟨.slice 41, 1, 24, [.slice none 0 0], some (.slice (.pair (.int .i64) (.pair .str (.pair .str (.pair (.slice (.int .u8)) (.pair (.int .i64) (.slice (.int .i64)))))))), false⟩),
  (36, ⟨.slice 3, 1, 24, [.slice none 0 0], some (.slice (.int .i64)), false⟩),
  (41, ⟨.struct [(3, 0), (9, 1), (9, 2), (22, 3), (3, 4), (36, 5)], 6, 96, [.int .i64 0, .string ⟨#[]⟩, .string ⟨#[]⟩, .slice none 0 0, .int .i64 0, .slice none 0 0], some (.pair (.int .i64) (.pair .str (.pair .str (.pair (.slice (.int .u8)) (.pair (.int .i64) (.slice (.int .i64))))))), false⟩),
  (44, ⟨.map 9 58, 1, 8, [.map none], none, false⟩),
  (46, ⟨.struct [(44, 0)], 1, 8, [.map none], none, false⟩),
  (58, ⟨.ptr 61, 1, 8, [.pointer none], none, false⟩),
  (61, ⟨.struct [(22, 0), (3, 1)], 2, 32, [.slice none 0 0, .int .i64 0], some (.pair (.slice (.int .u8)) (.int .i64)), false⟩),
  (65, ⟨.slice 9, 1, 24, [.slice none 0 0], some (.slice .str), false⟩)]
def disk_New (k : Nat) : Option FL := some ([] : FL)
def disk_New_spec : FSpec := ⟨[], [.freshd], fun k x => disk_New k⟩
def disk_New_parts : Parts := fun _ => none
def disk_New_env : List (Nat × FSpec) := []
def law05_heavy_p8 : Nat → (List (Int × (List UInt8) × (List UInt8) × (List Int) × Int × List Int)) → Int → Int → Option Int
  | 0, _, _, _ => none
  | k + 1, v0, v1, v2 => (bif (decide (v2 < ((v0).length : Int))) then (bif (decide (v2 < 400)) then ((at? v0 v2).bind fun e1 => law05_heavy_p8 k v0 (IntKind.wrap .i64 (v1 + ((e1.2.2.2.1).length : Int))) (IntKind.wrap .i64 (v2 + 1))) else some v1) else some v1)
def law05_heavy_u8 : Part := ⟨⟨[], [.val 0 (.slice (.pair (.int .i64) (.pair .str (.pair .str (.pair (.slice (.int .u8)) (.pair (.int .i64) (.slice (.int .i64)))))))), .val 3 (.int .i64), .val 4 (.int .i64)]⟩, [(.exit 0, ⟨[], [.val 3 (.int .i64)]⟩)], fun k x => law05_heavy_p8 k x.1 x.2.1 x.2.2⟩
def law05_heavy (k : Nat) (x0 : List (Int × (List UInt8) × (List UInt8) × (List Int) × Int × List Int)) : Option Bool := ((law05_heavy_p8 k x0 0 0).bind fun o2 => some (decide (o2 > 262144)))
def law05_heavy_spec : FSpec := ⟨[.imm (.slice (.pair (.int .i64) (.pair .str (.pair .str (.pair (.slice (.int .u8)) (.pair (.int .i64) (.slice (.int .i64))))))))], [.imm .bool], fun k x => law05_heavy k x⟩
def law05_heavy_parts : Parts := fun n => cond (Nat.beq n 8) (some law05_heavy_u8) (none)
def law05_heavy_env : List (Nat × FSpec) := []
def disk_Disk_is (k : Nat) (x0 : FL) : Option (Bool × FL) := some (true, x0)
def disk_Disk_is_spec : FSpec := ⟨[.disk], [.imm .bool, .backd], fun k x => disk_Disk_is k x⟩
def disk_Disk_is_parts : Parts := fun _ => none
def disk_Disk_is_env : List (Nat × FSpec) := []
def strings_Trim_spec : FSpec := trimSpec
def disk_may (k : Nat) (x0 : List UInt8) : Option Bool := (bif (decide (((x0).length : Int) ≥ 1)) then (bif (decide (((x0).length : Int) ≤ 32)) then ((trimF x0 [97, 98, 99, 100, 101, 102, 103, 104, 105, 106, 107, 108, 109, 110, 111, 112, 113, 114, 115, 116, 117, 118, 119, 120, 121, 122, 48, 49, 50, 51, 52, 53, 54, 55, 56, 57, 46, 45]).bind fun r1 => some (r1 == [])) else some false) else some false)
def disk_may_spec : FSpec := ⟨[.imm .str], [.imm .bool], fun k x => disk_may k x⟩
def disk_may_parts : Parts := fun _ => none
def disk_may_env : List (Nat × FSpec) := [(36, strings_Trim_spec)]
def disk_Disk_Append (k : Nat) (x0 : FL) (x1 : List UInt8) (x2 : List Int) : Option (Int × FL) := ((disk_Disk_is k x0).bind fun r1 => (bif (!r1.1) then some (1, r1.2) else ((disk_may k x1).bind fun r2 => (bif (!r2) then some (1, r1.2) else ((mfind (kt := .str) x1 r1.2).elim ((bif (decide (((r1.2).length : Int) ≥ 64)) then some (2, r1.2) else (bif (decide (((x2).length : Int) > 65536)) then some (2, r1.2) else (bif room (x2).length 1 then some (0, (mset (kt := .str) x1 (x2, 0) r1.2)) else none)))) fun x3 => (bif (decide (((x2).length : Int) > (IntKind.wrap .i64 (65536 - ((x3.1).length : Int))))) then some (2, (mset (kt := .str) x1 (x3.1, x3.2) r1.2)) else (bif room ((x3.1 ++ x2)).length 1 then (bif ((x1 == x1) && true) then some (0, (mset (kt := .str) x1 ((x3.1 ++ x2), x3.2) r1.2)) else none) else none)))))))
def disk_Disk_Append_spec : FSpec := ⟨[.disk, .imm .str, .imm (.slice (.int .u8))], [.imm (.int .i64), .backd], fun k x => disk_Disk_Append k x.1 x.2.1 x.2.2⟩
def disk_Disk_Append_parts : Parts := fun _ => none
def disk_Disk_Append_env : List (Nat × FSpec) := [(23, disk_Disk_is_spec), (24, disk_may_spec)]
def disk_Disk_find (k : Nat) (x0 : FL) (x1 : List UInt8) : Option ((FL × Option (List UInt8)) × Int) := ((disk_Disk_is k x0).bind fun r1 => (bif (!r1.1) then some ((r1.2, none), 1) else ((mfind (kt := .str) x1 r1.2).elim (some ((r1.2, none), 4)) fun x2 => some (((mset (kt := .str) x1 (x2.1, x2.2) r1.2), some x1), 0))))
def disk_Disk_find_spec : FSpec := ⟨[.disk, .imm .str], [.find, .imm (.int .i64)], fun k x => disk_Disk_find k x.1 x.2⟩
def disk_Disk_find_parts : Parts := fun _ => none
def disk_Disk_find_env : List (Nat × FSpec) := [(23, disk_Disk_is_spec)]
def disk_Disk_Sync (k : Nat) (x0 : FL) (x1 : List UInt8) : Option (Int × FL) := ((disk_Disk_find k x0 x1).bind fun r1 => ((r1.1.2).elim ((bif (r1.2 == 0) then none else some (r1.2, r1.1.1))) fun k2 => ((mfind (kt := .str) k2 r1.1.1).bind fun x3 => (bif (r1.2 == 0) then some (r1.2, (mset (kt := .str) k2 (x3.1, ((x3.1).length : Int)) r1.1.1)) else some (r1.2, (mset (kt := .str) k2 (x3.1, x3.2) r1.1.1))))))
def disk_Disk_Sync_spec : FSpec := ⟨[.disk, .imm .str], [.imm (.int .i64), .backd], fun k x => disk_Disk_Sync k x.1 x.2⟩
def disk_Disk_Sync_parts : Parts := fun _ => none
def disk_Disk_Sync_env : List (Nat × FSpec) := [(25, disk_Disk_find_spec)]
def maps_Keys_map_string_disk_file_string_disk_file_spec : FSpec := keysSpec 50
def slices_Sorted_string_spec : FSpec := seqSpec 50
def disk_Disk_names (k : Nat) (x0 : FL) : Option ((List (List UInt8)) × FL) := ((disk_Disk_is k x0).bind fun r1 => (bif (!r1.1) then some ([], r1.2) else ((seqF r1.2).bind fun z2 => some (z2, r1.2))))
def disk_Disk_names_spec : FSpec := ⟨[.disk], [.own .str, .backd], fun k x => disk_Disk_names k x⟩
def disk_Disk_names_parts : Parts := fun _ => none
def disk_Disk_names_env : List (Nat × FSpec) := [(23, disk_Disk_is_spec), (38, maps_Keys_map_string_disk_file_string_disk_file_spec), (37, slices_Sorted_string_spec)]
def slices_Clone_byte_byte_nil (k : Nat) (x0 : Unit) : Option (List Int) := some []
def slices_Clone_byte_byte_nil_spec : FSpec := ⟨[.nils], [.own (.int .u8)], fun k x => slices_Clone_byte_byte_nil k x⟩
def slices_Clone_byte_byte_nil_parts : Parts := fun _ => none
def slices_Clone_byte_byte_nil_env : List (Nat × FSpec) := []
def slices_Clone_byte_byte (k : Nat) (x0 : List Int) : Option (List Int) := (bif room (([] ++ x0)).length 1 then some ([] ++ x0) else none)
def slices_Clone_byte_byte_spec : FSpec := ⟨[.imm (.slice (.int .u8))], [.own (.int .u8)], fun k x => slices_Clone_byte_byte k x⟩
def slices_Clone_byte_byte_sspec : FSpec := ⟨[.nnil (.int .u8)], [.own (.int .u8)], fun k x => slices_Clone_byte_byte k x⟩
def slices_Clone_byte_byte_parts : Parts := fun _ => none
def slices_Clone_byte_byte_env : List (Nat × FSpec) := []
def disk_Disk_Crash_p3 : Nat → (List Int) → Int → Int → Unit → (List (List UInt8)) → FL → Option ((Unit × FL))
  | 0, _, _, _, _, _, _ => none
  | k + 1, v0, v1, v2, v3, v4, v5 => (bif (decide (v2 < v1)) then (bif (decide (0 ≤ v2) && decide (v2 < (v4).length)) then ((v4[Int.toNat v2]?).bind fun x2 => ((mfind (kt := .str) x2 v5).bind fun x3 => (bif (decide (v2 < ((v0).length : Int))) then ((at? v0 v2).bind fun e4 => (bif (decide ((0 : Int) ≤ (IntKind.wrap .i64 (x3.2 + (intMax 0 (intMin e4 (IntKind.wrap .i64 (((x3.1).length : Int) - x3.2))))))) && decide ((IntKind.wrap .i64 (x3.2 + (intMax 0 (intMin e4 (IntKind.wrap .i64 (((x3.1).length : Int) - x3.2)))))) ≤ ((x3.1).length : Int))) then ((slices_Clone_byte_byte k (cut x3.1 0 (IntKind.wrap .i64 (x3.2 + (intMax 0 (intMin e4 (IntKind.wrap .i64 (((x3.1).length : Int) - x3.2)))))))).bind fun r5 => disk_Disk_Crash_p3 k v0 v1 (IntKind.wrap .i64 (v2 + 1)) () v4 (mset (kt := .str) x2 (r5, ((r5).length : Int)) v5)) else none)) else (bif (decide ((0 : Int) ≤ (IntKind.wrap .i64 (x3.2 + 0))) && decide ((IntKind.wrap .i64 (x3.2 + 0)) ≤ ((x3.1).length : Int))) then ((slices_Clone_byte_byte k (cut x3.1 0 (IntKind.wrap .i64 (x3.2 + 0)))).bind fun r6 => disk_Disk_Crash_p3 k v0 v1 (IntKind.wrap .i64 (v2 + 1)) () v4 (mset (kt := .str) x2 (r6, ((r6).length : Int)) v5)) else none)))) else none) else some ((), v5))
def disk_Disk_Crash_u3 : Part := ⟨⟨[(0, .ptr 2000000 0), (9, .sref 500000)], [.val 1 (.slice (.int .i64)), .val 10 (.int .i64), .val 11 (.int .i64), .cells 2000000 [.stat (.mref 1000000)], .arr 500000 .str, .pm 1000000]⟩, [(.exit 0, ⟨[(0, .ptr 2000000 0)], [.cells 2000000 [.stat (.mref 1000000)], .pm 1000000]⟩)], fun k x => disk_Disk_Crash_p3 k x.1 x.2.1 x.2.2.1 x.2.2.2.1 x.2.2.2.2.1 x.2.2.2.2.2⟩
def disk_Disk_Crash (k : Nat) (x0 : FL) (x1 : List Int) : Option FL := ((disk_Disk_names k x0).bind fun r1 => ((disk_Disk_Crash_p3 k x1 ((r1.1).length : Int) 0 () r1.1 r1.2).bind fun o7 => some o7.2))
def disk_Disk_Crash_spec : FSpec := ⟨[.disk, .imm (.slice (.int .i64))], [.backd], fun k x => disk_Disk_Crash k x.1 x.2⟩
def disk_Disk_Crash_parts : Parts := fun n => cond (Nat.beq n 3) (some disk_Disk_Crash_u3) (none)
def disk_Disk_Crash_env : List (Nat × FSpec) := [(27, disk_Disk_names_spec), (26, slices_Clone_byte_byte_spec)]
def disk_Disk_Read (k : Nat) (x0 : FL) (x1 : List UInt8) : Option ((List Int) × Bool × FL) := ((disk_Disk_find k x0 x1).bind fun r1 => ((r1.1.2).elim ((bif (r1.2 != 0) then some ([], false, r1.1.1) else none)) fun k2 => ((mfind (kt := .str) k2 r1.1.1).bind fun x3 => (bif (r1.2 != 0) then some ([], false, (mset (kt := .str) k2 (x3.1, x3.2) r1.1.1)) else ((slices_Clone_byte_byte k x3.1).bind fun r4 => some (r4, true, (mset (kt := .str) k2 (x3.1, x3.2) r1.1.1)))))))
def disk_Disk_Read_spec : FSpec := ⟨[.disk, .imm .str], [.own (.int .u8), .imm .bool, .backd], fun k x => disk_Disk_Read k x.1 x.2⟩
def disk_Disk_Read_parts : Parts := fun _ => none
def disk_Disk_Read_env : List (Nat × FSpec) := [(25, disk_Disk_find_spec), (26, slices_Clone_byte_byte_spec)]
def law05_awake (k : Nat) : Option Bool := ((disk_New k ).bind fun r1 => (bif !([97, 98]).isEmpty then ((disk_Disk_Append k r1 [97] [97, 98]).bind fun r2 => (bif (r2.1 != 0) then some false else ((disk_Disk_Sync k r2.2 [97]).bind fun r3 => (bif !([99, 100]).isEmpty then ((disk_Disk_Append k r3.2 [97] [99, 100]).bind fun r4 => ((disk_Disk_Crash k r4.2 [1]).bind fun r5 => ((disk_Disk_Read k r5 [97]).bind fun r6 => (bif r6.2.1 then some ((toBytes r6.1) == [97, 98, 99]) else some false)))) else none)))) else none))
def law05_awake_spec : FSpec := ⟨[], [.imm .bool], fun k x => law05_awake k⟩
def law05_awake_parts : Parts := fun _ => none
def law05_awake_env : List (Nat × FSpec) := [(7, disk_New_spec), (8, disk_Disk_Append_spec), (15, disk_Disk_Sync_spec), (14, disk_Disk_Crash_spec), (10, disk_Disk_Read_spec)]
def ref05_place_p6 : Nat → (List ((List UInt8) × (List Int) × Int)) → (List UInt8) → Int → Option (Unit ⊕ Int)
  | 0, _, _, _ => none
  | k + 1, v0, v1, v2 => (bif (decide (v2 < ((v0).length : Int))) then ((at? v0 v2).bind fun e1 => (bif (e1.1 == v1) then some (.inr v2) else ref05_place_p6 k v0 v1 (IntKind.wrap .i64 (v2 + 1)))) else some (.inl ()))
def ref05_place_u6 : Part := ⟨⟨[], [.val 0 (.slice (.pair .str (.pair (.slice (.int .u8)) (.int .i64)))), .val 1 .str, .val 5 (.int .i64)]⟩, [(.exit 0, ⟨[], []⟩), (.ret, ⟨[], [.val 4 (.int .i64)]⟩)], fun k x => ref05_place_p6 k x.1 x.2.1 x.2.2⟩
def ref05_place (k : Nat) (x0 : List ((List UInt8) × (List Int) × Int)) (x1 : List UInt8) : Option Int := ((ref05_place_p6 k x0 x1 0).bind fun o2 => Sum.elim (fun a3 => some (-1)) (fun b4 => some b4) o2)
def ref05_place_spec : FSpec := ⟨[.imm (.slice (.pair .str (.pair (.slice (.int .u8)) (.int .i64)))), .imm .str], [.imm (.int .i64)], fun k x => ref05_place k x.1 x.2⟩
def ref05_place_parts : Parts := fun n => cond (Nat.beq n 6) (some ref05_place_u6) (none)
def ref05_place_env : List (Nat × FSpec) := []
def ref05_put_p10 : Nat → (List ((List UInt8) × (List Int) × Int)) → Bool → Int → ((List UInt8) × (List Int) × Int) → (List ((List UInt8) × (List Int) × Int)) → Option ((Bool × ((List UInt8) × (List Int) × Int) × List ((List UInt8) × (List Int) × Int)))
  | 0, _, _, _, _, _ => none
  | k + 1, v0, v1, v2, v3, v4 => (bif (decide (v2 < ((v0).length : Int))) then (bif (!v1) then ((at? v0 v2).bind fun e1 => (bif (!strLess e1.1 v3.1) then (bif room ((v4 ++ [v3])).length 48 then ((at? v0 v2).bind fun e2 => (bif (!(e2.1 == v3.1)) then ((at? v0 v2).bind fun e3 => (bif room (((v4 ++ [v3]) ++ [e3])).length 48 then ref05_put_p10 k v0 true (IntKind.wrap .i64 (v2 + 1)) v3 ((v4 ++ [v3]) ++ [e3]) else none)) else ref05_put_p10 k v0 true (IntKind.wrap .i64 (v2 + 1)) v3 (v4 ++ [v3]))) else none) else ((at? v0 v2).bind fun e4 => (bif (!(e4.1 == v3.1)) then ((at? v0 v2).bind fun e5 => (bif room ((v4 ++ [e5])).length 48 then ref05_put_p10 k v0 v1 (IntKind.wrap .i64 (v2 + 1)) v3 (v4 ++ [e5]) else none)) else ref05_put_p10 k v0 v1 (IntKind.wrap .i64 (v2 + 1)) v3 v4)))) else ((at? v0 v2).bind fun e6 => (bif (!(e6.1 == v3.1)) then ((at? v0 v2).bind fun e7 => (bif room ((v4 ++ [e7])).length 48 then ref05_put_p10 k v0 v1 (IntKind.wrap .i64 (v2 + 1)) v3 (v4 ++ [e7]) else none)) else ref05_put_p10 k v0 v1 (IntKind.wrap .i64 (v2 + 1)) v3 v4))) else some (v1, v3, v4))
def ref05_put_u10 : Part := ⟨⟨[(3, .ptr 500000 0), (5, .sref 500001)], [.val 0 (.slice (.pair .str (.pair (.slice (.int .u8)) (.int .i64)))), .val 6 .bool, .val 7 (.int .i64), .cells 500000 [.dyn .str, .dyn (.slice (.int .u8)), .dyn (.int .i64)], .arr 500001 (.pair .str (.pair (.slice (.int .u8)) (.int .i64)))]⟩, [(.exit 0, ⟨[(3, .ptr 500000 0), (5, .sref 500001)], [.val 6 .bool, .cells 500000 [.dyn .str, .dyn (.slice (.int .u8)), .dyn (.int .i64)], .arr 500001 (.pair .str (.pair (.slice (.int .u8)) (.int .i64)))]⟩)], fun k x => ref05_put_p10 k x.1 x.2.1 x.2.2.1 x.2.2.2.1 x.2.2.2.2⟩
def ref05_put (k : Nat) (x0 : List ((List UInt8) × (List Int) × Int)) (x1 : (List UInt8) × (List Int) × Int) : Option (List ((List UInt8) × (List Int) × Int)) := ((ref05_put_p10 k x0 false 0 x1 []).bind fun o8 => (bif (!o8.1) then (bif room ((o8.2.2 ++ [o8.2.1])).length 48 then some (o8.2.2 ++ [o8.2.1]) else none) else some o8.2.2))
def ref05_put_spec : FSpec := ⟨[.imm (.slice (.pair .str (.pair (.slice (.int .u8)) (.int .i64)))), .agg (.pair .str (.pair (.slice (.int .u8)) (.int .i64)))], [.own (.pair .str (.pair (.slice (.int .u8)) (.int .i64)))], fun k x => ref05_put k x.1 x.2⟩
def ref05_put_parts : Parts := fun n => cond (Nat.beq n 10) (some ref05_put_u10) (none)
def ref05_put_env : List (Nat × FSpec) := []
def ref05_Sync (k : Nat) (x0 : List ((List UInt8) × (List Int) × Int)) (x1 : List UInt8) : Option ((List ((List UInt8) × (List Int) × Int)) × Int) := ((ref05_place k x0 x1).bind fun r1 => (bif (decide (r1 < 0)) then some (x0, 4) else ((at? x0 r1).bind fun e2 => ((ref05_put k x0 (e2.1, (e2.2.1, ((e2.2.1).length : Int)))).bind fun r3 => some (r3, 0)))))
def ref05_Sync_spec : FSpec := ⟨[.imm (.slice (.pair .str (.pair (.slice (.int .u8)) (.int .i64)))), .imm .str], [.imm (.slice (.pair .str (.pair (.slice (.int .u8)) (.int .i64)))), .imm (.int .i64)], fun k x => ref05_Sync k x.1 x.2⟩
def ref05_Sync_parts : Parts := fun _ => none
def ref05_Sync_env : List (Nat × FSpec) := [(35, ref05_place_spec), (39, ref05_put_spec)]
def disk_Disk_Cut (k : Nat) (x0 : FL) (x1 : List UInt8) (x2 : Int) : Option (Int × FL) := ((disk_Disk_find k x0 x1).bind fun r1 => ((r1.1.2).elim ((bif (r1.2 != 0) then some (r1.2, r1.1.1) else (bif (decide (x2 < 0)) then some (1, r1.1.1) else none))) fun k2 => ((mfind (kt := .str) k2 r1.1.1).bind fun x3 => (bif (r1.2 != 0) then some (r1.2, (mset (kt := .str) k2 (x3.1, x3.2) r1.1.1)) else (bif (decide (x2 < 0)) then some (1, (mset (kt := .str) k2 (x3.1, x3.2) r1.1.1)) else (bif (decide (x2 > ((x3.1).length : Int))) then some (1, (mset (kt := .str) k2 (x3.1, x3.2) r1.1.1)) else (bif (decide ((0 : Int) ≤ x2) && decide (x2 ≤ ((x3.1).length : Int))) then ((slices_Clone_byte_byte k (cut x3.1 0 x2)).bind fun r4 => some (0, (mset (kt := .str) k2 (r4, (intMin x3.2 x2)) r1.1.1))) else none)))))))
def disk_Disk_Cut_spec : FSpec := ⟨[.disk, .imm .str, .imm (.int .i64)], [.imm (.int .i64), .backd], fun k x => disk_Disk_Cut k x.1 x.2.1 x.2.2⟩
def disk_Disk_Cut_parts : Parts := fun _ => none
def disk_Disk_Cut_env : List (Nat × FSpec) := [(25, disk_Disk_find_spec), (26, slices_Clone_byte_byte_spec)]
def ref05_Cut (k : Nat) (x0 : List ((List UInt8) × (List Int) × Int)) (x1 : List UInt8) (x2 : Int) : Option ((List ((List UInt8) × (List Int) × Int)) × Int) := ((ref05_place k x0 x1).bind fun r1 => (bif (decide (r1 < 0)) then some (x0, 4) else ((at? x0 r1).bind fun e2 => (bif (decide (x2 < 0)) then some (x0, 1) else (bif (decide (x2 > ((e2.2.1).length : Int))) then some (x0, 1) else (bif (true && decide ((0 : Int) ≤ x2) && decide (x2 ≤ ((e2.2.1).length : Int))) then (bif (decide (e2.2.2 > x2)) then ((ref05_put k x0 (e2.1, ((cut e2.2.1 0 x2), x2))).bind fun r3 => some (r3, 0)) else ((ref05_put k x0 (e2.1, ((cut e2.2.1 0 x2), e2.2.2))).bind fun r4 => some (r4, 0))) else none))))))
def ref05_Cut_spec : FSpec := ⟨[.imm (.slice (.pair .str (.pair (.slice (.int .u8)) (.int .i64)))), .imm .str, .imm (.int .i64)], [.imm (.slice (.pair .str (.pair (.slice (.int .u8)) (.int .i64)))), .imm (.int .i64)], fun k x => ref05_Cut k x.1 x.2.1 x.2.2⟩
def ref05_Cut_parts : Parts := fun _ => none
def ref05_Cut_env : List (Nat × FSpec) := [(35, ref05_place_spec), (39, ref05_put_spec)]
def disk_Disk_Rename (k : Nat) (x0 : FL) (x1 : List UInt8) (x2 : List UInt8) : Option (Int × FL) := ((disk_Disk_find k x0 x1).bind fun r1 => ((r1.1.2).elim ((bif (r1.2 != 0) then some (r1.2, r1.1.1) else ((disk_may k x2).bind fun r4 => (bif (!r4) then some (1, r1.1.1) else none)))) fun k2 => ((mfind (kt := .str) k2 r1.1.1).bind fun x3 => (bif (r1.2 != 0) then some (r1.2, (mset (kt := .str) k2 (x3.1, x3.2) r1.1.1)) else ((disk_may k x2).bind fun r5 => (bif (!r5) then some (1, (mset (kt := .str) k2 (x3.1, x3.2) r1.1.1)) else (bif (x1 == k2) then some (0, (mset (kt := .str) x2 (x3.1, x3.2) (mdel (kt := .str) x1 r1.1.1))) else none)))))))
def disk_Disk_Rename_spec : FSpec := ⟨[.disk, .imm .str, .imm .str], [.imm (.int .i64), .backd], fun k x => disk_Disk_Rename k x.1 x.2.1 x.2.2⟩
def disk_Disk_Rename_parts : Parts := fun _ => none
def disk_Disk_Rename_env : List (Nat × FSpec) := [(25, disk_Disk_find_spec), (24, disk_may_spec)]
def ref05_Name_p14 : Nat → (List UInt8) → Int → Option (Unit ⊕ Bool)
  | 0, _, _ => none
  | k + 1, v0, v1 => (bif (decide (v1 < ((v0).length : Int))) then ((at? v0 v1).bind fun c1 => (bif (decide ((c1.toNat : Int) ≥ 97)) then (bif (decide ((c1.toNat : Int) ≤ 122)) then ref05_Name_p14 k v0 (IntKind.wrap .i64 (v1 + 1)) else (bif (decide ((c1.toNat : Int) ≥ 48)) then (bif (decide ((c1.toNat : Int) ≤ 57)) then ref05_Name_p14 k v0 (IntKind.wrap .i64 (v1 + 1)) else (bif ((c1.toNat : Int) == 46) then ref05_Name_p14 k v0 (IntKind.wrap .i64 (v1 + 1)) else (bif (!((c1.toNat : Int) == 45)) then some (.inr false) else ref05_Name_p14 k v0 (IntKind.wrap .i64 (v1 + 1))))) else (bif ((c1.toNat : Int) == 46) then ref05_Name_p14 k v0 (IntKind.wrap .i64 (v1 + 1)) else (bif (!((c1.toNat : Int) == 45)) then some (.inr false) else ref05_Name_p14 k v0 (IntKind.wrap .i64 (v1 + 1)))))) else (bif (decide ((c1.toNat : Int) ≥ 48)) then (bif (decide ((c1.toNat : Int) ≤ 57)) then ref05_Name_p14 k v0 (IntKind.wrap .i64 (v1 + 1)) else (bif ((c1.toNat : Int) == 46) then ref05_Name_p14 k v0 (IntKind.wrap .i64 (v1 + 1)) else (bif (!((c1.toNat : Int) == 45)) then some (.inr false) else ref05_Name_p14 k v0 (IntKind.wrap .i64 (v1 + 1))))) else (bif ((c1.toNat : Int) == 46) then ref05_Name_p14 k v0 (IntKind.wrap .i64 (v1 + 1)) else (bif (!((c1.toNat : Int) == 45)) then some (.inr false) else ref05_Name_p14 k v0 (IntKind.wrap .i64 (v1 + 1))))))) else some (.inl ()))
def ref05_Name_u14 : Part := ⟨⟨[], [.val 0 .str, .val 3 (.int .i64)]⟩, [(.exit 0, ⟨[], []⟩), (.ret, ⟨[], [.val 2 .bool]⟩)], fun k x => ref05_Name_p14 k x.1 x.2⟩
def ref05_Name (k : Nat) (x0 : List UInt8) : Option Bool := (bif (decide (((x0).length : Int) < 1)) then some false else (bif (decide (((x0).length : Int) > 32)) then some false else ((ref05_Name_p14 k x0 0).bind fun o2 => Sum.elim (fun a3 => some true) (fun b4 => some b4) o2)))
def ref05_Name_spec : FSpec := ⟨[.imm .str], [.imm .bool], fun k x => ref05_Name k x⟩
def ref05_Name_parts : Parts := fun n => cond (Nat.beq n 14) (some ref05_Name_u14) (none)
def ref05_Name_env : List (Nat × FSpec) := []
def ref05_out_p8 : Nat → (List ((List UInt8) × (List Int) × Int)) → (List UInt8) → Int → (List ((List UInt8) × (List Int) × Int)) → Option ((List ((List UInt8) × (List Int) × Int)))
  | 0, _, _, _, _ => none
  | k + 1, v0, v1, v2, v3 => (bif (decide (v2 < ((v0).length : Int))) then ((at? v0 v2).bind fun e1 => (bif (!(e1.1 == v1)) then ((at? v0 v2).bind fun e2 => (bif room ((v3 ++ [e2])).length 48 then ref05_out_p8 k v0 v1 (IntKind.wrap .i64 (v2 + 1)) (v3 ++ [e2]) else none)) else ref05_out_p8 k v0 v1 (IntKind.wrap .i64 (v2 + 1)) v3)) else some v3)
def ref05_out_u8 : Part := ⟨⟨[(5, .sref 500000)], [.val 0 (.slice (.pair .str (.pair (.slice (.int .u8)) (.int .i64)))), .val 1 .str, .val 6 (.int .i64), .arr 500000 (.pair .str (.pair (.slice (.int .u8)) (.int .i64)))]⟩, [(.exit 0, ⟨[(5, .sref 500000)], [.arr 500000 (.pair .str (.pair (.slice (.int .u8)) (.int .i64)))]⟩)], fun k x => ref05_out_p8 k x.1 x.2.1 x.2.2.1 x.2.2.2⟩
def ref05_out (k : Nat) (x0 : List ((List UInt8) × (List Int) × Int)) (x1 : List UInt8) : Option (List ((List UInt8) × (List Int) × Int)) := ((ref05_out_p8 k x0 x1 0 []).bind fun o3 => some o3)
def ref05_out_spec : FSpec := ⟨[.imm (.slice (.pair .str (.pair (.slice (.int .u8)) (.int .i64)))), .imm .str], [.own (.pair .str (.pair (.slice (.int .u8)) (.int .i64)))], fun k x => ref05_out k x.1 x.2⟩
def ref05_out_parts : Parts := fun n => cond (Nat.beq n 8) (some ref05_out_u8) (none)
def ref05_out_env : List (Nat × FSpec) := []
def ref05_Rename (k : Nat) (x0 : List ((List UInt8) × (List Int) × Int)) (x1 : List UInt8) (x2 : List UInt8) : Option ((List ((List UInt8) × (List Int) × Int)) × Int) := ((ref05_place k x0 x1).bind fun r1 => (bif (decide (r1 < 0)) then some (x0, 4) else ((ref05_Name k x2).bind fun r2 => (bif (!r2) then some (x0, 1) else ((at? x0 r1).bind fun e3 => ((ref05_out k x0 x1).bind fun r4 => ((ref05_put k r4 (x2, e3.2)).bind fun r5 => some (r5, 0))))))))
def ref05_Rename_spec : FSpec := ⟨[.imm (.slice (.pair .str (.pair (.slice (.int .u8)) (.int .i64)))), .imm .str, .imm .str], [.imm (.slice (.pair .str (.pair (.slice (.int .u8)) (.int .i64)))), .imm (.int .i64)], fun k x => ref05_Rename k x.1 x.2.1 x.2.2⟩
def ref05_Rename_parts : Parts := fun _ => none
def ref05_Rename_env : List (Nat × FSpec) := [(35, ref05_place_spec), (34, ref05_Name_spec), (40, ref05_out_spec), (39, ref05_put_spec)]
def disk_Disk_Remove (k : Nat) (x0 : FL) (x1 : List UInt8) : Option (Int × FL) := ((disk_Disk_find k x0 x1).bind fun r1 => ((r1.1.2).elim ((bif (r1.2 == 0) then some (r1.2, (mdel (kt := .str) x1 r1.1.1)) else some (r1.2, r1.1.1))) fun k2 => ((mfind (kt := .str) k2 r1.1.1).bind fun x3 => (bif (r1.2 == 0) then (bif (x1 == k2) then some (r1.2, (mdel (kt := .str) x1 r1.1.1)) else none) else some (r1.2, (mset (kt := .str) k2 (x3.1, x3.2) r1.1.1))))))
def disk_Disk_Remove_spec : FSpec := ⟨[.disk, .imm .str], [.imm (.int .i64), .backd], fun k x => disk_Disk_Remove k x.1 x.2⟩
def disk_Disk_Remove_parts : Parts := fun _ => none
def disk_Disk_Remove_env : List (Nat × FSpec) := [(25, disk_Disk_find_spec)]
def ref05_Remove (k : Nat) (x0 : List ((List UInt8) × (List Int) × Int)) (x1 : List UInt8) : Option ((List ((List UInt8) × (List Int) × Int)) × Int) := ((ref05_place k x0 x1).bind fun r1 => (bif (decide (r1 < 0)) then some (x0, 4) else ((ref05_out k x0 x1).bind fun r2 => some (r2, 0))))
def ref05_Remove_spec : FSpec := ⟨[.imm (.slice (.pair .str (.pair (.slice (.int .u8)) (.int .i64)))), .imm .str], [.imm (.slice (.pair .str (.pair (.slice (.int .u8)) (.int .i64)))), .imm (.int .i64)], fun k x => ref05_Remove k x.1 x.2⟩
def ref05_Remove_parts : Parts := fun _ => none
def ref05_Remove_env : List (Nat × FSpec) := [(35, ref05_place_spec), (40, ref05_out_spec)]
def ref05_Crash_p28 : Nat → (List ((List UInt8) × (List Int) × Int)) → (List Int) → Int → Int → Int → (List ((List UInt8) × (List Int) × Int)) → ((List UInt8) × (List Int) × Int) → Option (((List ((List UInt8) × (List Int) × Int)) × (List Int) × Int × Int × (List ((List UInt8) × (List Int) × Int)) × (List UInt8) × (List Int) × Int))
  | 0, _, _, _, _, _, _, _ => none
  | k + 1, v0, v1, v2, v3, v4, v5, v6 => ((at? v1 v2).bind fun e2 => (bif (decide (v4 < e2)) then (bif (decide (v3 < ((v6.2.1).length : Int))) then ref05_Crash_p28 k v0 v1 v2 (IntKind.wrap .i64 (v3 + 1)) (IntKind.wrap .i64 (v4 + 1)) v5 v6 else some (v0, v1, v2, v3, v5, v6)) else some (v0, v1, v2, v3, v5, v6)))
def ref05_Crash_u28 : Part := ⟨⟨[(5, .sref 500000), (7, .ptr 500001 0)], [.val 0 (.slice (.pair .str (.pair (.slice (.int .u8)) (.int .i64)))), .val 1 (.slice (.int .i64)), .val 6 (.int .i64), .val 8 (.int .i64), .val 9 (.int .i64), .arr 500000 (.pair .str (.pair (.slice (.int .u8)) (.int .i64))), .cells 500001 [.dyn .str, .dyn (.slice (.int .u8)), .dyn (.int .i64)]]⟩, [(.exit 2, ⟨[(5, .sref 500000), (7, .ptr 500001 0)], [.val 0 (.slice (.pair .str (.pair (.slice (.int .u8)) (.int .i64)))), .val 1 (.slice (.int .i64)), .val 6 (.int .i64), .val 8 (.int .i64), .arr 500000 (.pair .str (.pair (.slice (.int .u8)) (.int .i64))), .cells 500001 [.dyn .str, .dyn (.slice (.int .u8)), .dyn (.int .i64)]]⟩)], fun k x => ref05_Crash_p28 k x.1 x.2.1 x.2.2.1 x.2.2.2.1 x.2.2.2.2.1 x.2.2.2.2.2.1 x.2.2.2.2.2.2⟩
def ref05_Crash_p8 : Nat → (List ((List UInt8) × (List Int) × Int)) → (List Int) → Int → (List ((List UInt8) × (List Int) × Int)) → Option ((List ((List UInt8) × (List Int) × Int)))
  | 0, _, _, _, _ => none
  | k + 1, v0, v1, v2, v3 => (bif (decide (v2 < ((v0).length : Int))) then ((at? v0 v2).bind fun e1 => (bif (decide (v2 < ((v1).length : Int))) then ((ref05_Crash_p28 k v0 v1 v2 e1.2.2 0 v3 e1).bind fun o3 => (bif (true && decide ((0 : Int) ≤ o3.2.2.2.1) && decide (o3.2.2.2.1 ≤ ((o3.2.2.2.2.2.2.1).length : Int))) then (bif room ((o3.2.2.2.2.1 ++ [(o3.2.2.2.2.2.1, ((cut o3.2.2.2.2.2.2.1 0 o3.2.2.2.1), o3.2.2.2.1))])).length 48 then ref05_Crash_p8 k o3.1 o3.2.1 (IntKind.wrap .i64 (o3.2.2.1 + 1)) (o3.2.2.2.2.1 ++ [(o3.2.2.2.2.2.1, ((cut o3.2.2.2.2.2.2.1 0 o3.2.2.2.1), o3.2.2.2.1))]) else none) else none)) else (bif (true && decide ((0 : Int) ≤ e1.2.2) && decide (e1.2.2 ≤ ((e1.2.1).length : Int))) then (bif room ((v3 ++ [(e1.1, ((cut e1.2.1 0 e1.2.2), e1.2.2))])).length 48 then ref05_Crash_p8 k v0 v1 (IntKind.wrap .i64 (v2 + 1)) (v3 ++ [(e1.1, ((cut e1.2.1 0 e1.2.2), e1.2.2))]) else none) else none))) else some v3)
def ref05_Crash_u8 : Part := ⟨⟨[(5, .sref 500000)], [.val 0 (.slice (.pair .str (.pair (.slice (.int .u8)) (.int .i64)))), .val 1 (.slice (.int .i64)), .val 6 (.int .i64), .arr 500000 (.pair .str (.pair (.slice (.int .u8)) (.int .i64)))]⟩, [(.exit 0, ⟨[(5, .sref 500000)], [.arr 500000 (.pair .str (.pair (.slice (.int .u8)) (.int .i64)))]⟩)], fun k x => ref05_Crash_p8 k x.1 x.2.1 x.2.2.1 x.2.2.2⟩
def ref05_Crash (k : Nat) (x0 : List ((List UInt8) × (List Int) × Int)) (x1 : List Int) : Option (List ((List UInt8) × (List Int) × Int)) := ((ref05_Crash_p8 k x0 x1 0 []).bind fun o4 => some o4)
def ref05_Crash_spec : FSpec := ⟨[.imm (.slice (.pair .str (.pair (.slice (.int .u8)) (.int .i64)))), .imm (.slice (.int .i64))], [.own (.pair .str (.pair (.slice (.int .u8)) (.int .i64)))], fun k x => ref05_Crash k x.1 x.2⟩
def ref05_Crash_parts : Parts := fun n => cond (Nat.beq n 28) (some ref05_Crash_u28) (cond (Nat.beq n 8) (some ref05_Crash_u8) (none))
def ref05_Crash_env : List (Nat × FSpec) := []
def ref05_Append_p14 (k : Nat) (v0 : List ((List UInt8) × (List Int) × Int)) (v1 : List Int) (v2 : Int) (v3 : (List UInt8) × Int) : Option (((List ((List UInt8) × (List Int) × Int)) × (List Int) × Int × (List UInt8) × (List Int) × Int)) := (bif (decide (v2 ≥ 0)) then ((at? v0 v2).bind fun e3 => some (v0, v1, v2, e3)) else some (v0, v1, v2, (v3.1, [], v3.2)))
def ref05_Append_u14 : Part := ⟨⟨[(9, .ptr 500000 0)], [.val 0 (.slice (.pair .str (.pair (.slice (.int .u8)) (.int .i64)))), .val 2 (.slice (.int .u8)), .val 8 (.int .i64), .cells 500000 [.dyn .str, .stat (.nils), .dyn (.int .i64)]]⟩, [(.normal, ⟨[(9, .ptr 500000 0)], [.val 0 (.slice (.pair .str (.pair (.slice (.int .u8)) (.int .i64)))), .val 2 (.slice (.int .u8)), .val 8 (.int .i64), .cells 500000 [.dyn .str, .dyn (.slice (.int .u8)), .dyn (.int .i64)]]⟩)], fun k x => ref05_Append_p14 k x.1 x.2.1 x.2.2.1 x.2.2.2⟩
def ref05_Append (k : Nat) (x0 : List ((List UInt8) × (List Int) × Int)) (x1 : List UInt8) (x2 : List Int) : Option ((List ((List UInt8) × (List Int) × Int)) × Int) := ((ref05_Name k x1).bind fun r1 => (bif (!r1) then some (x0, 1) else ((ref05_place k x0 x1).bind fun r2 => ((ref05_Append_p14 k x0 x2 r2 (x1, 0)).bind fun o4 => (bif (decide (o4.2.2.1 < 0)) then (bif (decide (((o4.1).length : Int) ≥ 64)) then some (o4.1, 2) else (bif (decide ((IntKind.wrap .i64 (((o4.2.2.2.2.1).length : Int) + ((o4.2.1).length : Int))) > 65536)) then some (o4.1, 2) else (bif room (([] ++ o4.2.2.2.2.1)).length 1 then (bif room ((([] ++ o4.2.2.2.2.1) ++ o4.2.1)).length 1 then ((ref05_put k o4.1 (o4.2.2.2.1, ((([] ++ o4.2.2.2.2.1) ++ o4.2.1), o4.2.2.2.2.2))).bind fun r5 => some (r5, 0)) else none) else none))) else (bif (decide ((IntKind.wrap .i64 (((o4.2.2.2.2.1).length : Int) + ((o4.2.1).length : Int))) > 65536)) then some (o4.1, 2) else (bif room (([] ++ o4.2.2.2.2.1)).length 1 then (bif room ((([] ++ o4.2.2.2.2.1) ++ o4.2.1)).length 1 then ((ref05_put k o4.1 (o4.2.2.2.1, ((([] ++ o4.2.2.2.2.1) ++ o4.2.1), o4.2.2.2.2.2))).bind fun r6 => some (r6, 0)) else none) else none)))))))
def ref05_Append_spec : FSpec := ⟨[.imm (.slice (.pair .str (.pair (.slice (.int .u8)) (.int .i64)))), .imm .str, .imm (.slice (.int .u8))], [.imm (.slice (.pair .str (.pair (.slice (.int .u8)) (.int .i64)))), .imm (.int .i64)], fun k x => ref05_Append k x.1 x.2.1 x.2.2⟩
def ref05_Append_parts : Parts := fun n => cond (Nat.beq n 14) (some ref05_Append_u14) (none)
def ref05_Append_env : List (Nat × FSpec) := [(34, ref05_Name_spec), (35, ref05_place_spec), (39, ref05_put_spec)]
def law05_does_p46 : Nat → (List ((List UInt8) × (List Int) × Int)) → Int → Int → Unit → (Int × (List UInt8) × (List UInt8) × (List Int) × Int × List Int) → (List Int) → FL → Option (((List ((List UInt8) × (List Int) × Int)) × Int × Unit × (Int × (List UInt8) × (List UInt8) × (List Int) × Int × List Int) × FL))
  | 0, _, _, _, _, _, _, _ => none
  | k + 1, v0, v1, v2, v3, v4, v5, v6 => (bif (decide (v2 < ((v5).length : Int))) then (bif (decide (0 ≤ v2) && decide (v2 < (v5).length)) then ((v5[Int.toNat v2]?).bind fun x12 => (bif (decide (0 ≤ v2) && decide (v2 < (v5).length)) then ((v5[(Int.toNat v2)]?).bind fun x13 => law05_does_p46 k v0 v1 (IntKind.wrap .i64 (v2 + 1)) () v4 (v5.set (Int.toNat v2) (IntKind.wrap .u8 (x12 + 1))) v6) else none)) else none) else some (v0, v1, (), v4, v6))
def law05_does_u46 : Part := ⟨⟨[(0, .ptr 2000000 0), (5, .ptr 500000 0), (10, .sref 500001)], [.val 1 (.slice (.pair .str (.pair (.slice (.int .u8)) (.int .i64)))), .val 8 (.int .i64), .val 11 (.int .i64), .cells 2000000 [.stat (.mref 1000000)], .cells 500000 [.dyn (.int .i64), .dyn .str, .dyn .str, .dyn (.slice (.int .u8)), .dyn (.int .i64), .dyn (.slice (.int .i64))], .arr 500001 (.int .u8), .pm 1000000]⟩, [(.exit 1, ⟨[(0, .ptr 2000000 0), (5, .ptr 500000 0)], [.val 1 (.slice (.pair .str (.pair (.slice (.int .u8)) (.int .i64)))), .val 8 (.int .i64), .cells 2000000 [.stat (.mref 1000000)], .cells 500000 [.dyn (.int .i64), .dyn .str, .dyn .str, .dyn (.slice (.int .u8)), .dyn (.int .i64), .dyn (.slice (.int .i64))], .pm 1000000]⟩)], fun k x => law05_does_p46 k x.1 x.2.1 x.2.2.1 x.2.2.2.1 x.2.2.2.2.1 x.2.2.2.2.2.1 x.2.2.2.2.2.2⟩
def law05_does (k : Nat) (x0 : FL) (x1 : List ((List UInt8) × (List Int) × Int)) (x2 : Int × (List UInt8) × (List UInt8) × (List Int) × Int × List Int) : Option ((List ((List UInt8) × (List Int) × Int)) × Bool × FL) := (bif (x2.1 == 1) then ((disk_Disk_Sync k x0 x2.2.1).bind fun r1 => ((ref05_Sync k x1 x2.2.1).bind fun r2 => some (r2.1, (r1.1 == r2.2), r1.2))) else (bif (x2.1 == 2) then ((disk_Disk_Cut k x0 x2.2.1 x2.2.2.2.2.1).bind fun r3 => ((ref05_Cut k x1 x2.2.1 x2.2.2.2.2.1).bind fun r4 => some (r4.1, (r3.1 == r4.2), r3.2))) else (bif (x2.1 == 3) then ((disk_Disk_Rename k x0 x2.2.1 x2.2.2.1).bind fun r5 => ((ref05_Rename k x1 x2.2.1 x2.2.2.1).bind fun r6 => some (r6.1, (r5.1 == r6.2), r5.2))) else (bif (x2.1 == 4) then ((disk_Disk_Remove k x0 x2.2.1).bind fun r7 => ((ref05_Remove k x1 x2.2.1).bind fun r8 => some (r8.1, (r7.1 == r8.2), r7.2))) else (bif (x2.1 == 5) then (bif room (([] ++ x2.2.2.2.2.2)).length 8 then ((disk_Disk_Crash k x0 ([] ++ x2.2.2.2.2.2)).bind fun r9 => ((ref05_Crash k x1 x2.2.2.2.2.2).bind fun r10 => some (r10, true, r9))) else none) else (bif room (([] ++ x2.2.2.2.1)).length 1 then ((disk_Disk_Append k x0 x2.2.1 ([] ++ x2.2.2.2.1)).bind fun r11 => ((law05_does_p46 k x1 r11.1 0 () x2 ([] ++ x2.2.2.2.1) r11.2).bind fun o14 => ((ref05_Append k o14.1 o14.2.2.2.1.2.1 o14.2.2.2.1.2.2.2.1).bind fun r15 => some (r15.1, (o14.2.1 == r15.2), o14.2.2.2.2)))) else none))))))
def law05_does_spec : FSpec := ⟨[.disk, .imm (.slice (.pair .str (.pair (.slice (.int .u8)) (.int .i64)))), .agg (.pair (.int .i64) (.pair .str (.pair .str (.pair (.slice (.int .u8)) (.pair (.int .i64) (.slice (.int .i64)))))))], [.imm (.slice (.pair .str (.pair (.slice (.int .u8)) (.int .i64)))), .imm .bool, .backd], fun k x => law05_does k x.1 x.2.1 x.2.2⟩
def law05_does_parts : Parts := fun n => cond (Nat.beq n 46) (some law05_does_u46) (none)
def law05_does_env : List (Nat × FSpec) := [(15, disk_Disk_Sync_spec), (28, ref05_Sync_spec), (16, disk_Disk_Cut_spec), (29, ref05_Cut_spec), (17, disk_Disk_Rename_spec), (30, ref05_Rename_spec), (18, disk_Disk_Remove_spec), (31, ref05_Remove_spec), (14, disk_Disk_Crash_spec), (32, ref05_Crash_spec), (8, disk_Disk_Append_spec), (33, ref05_Append_spec)]
def disk_Disk_Files_p8 : Nat → Int → Int → Unit → (List (List UInt8)) → FL → (List ((List UInt8) × (List Int) × Int)) → Option ((Unit × FL × List ((List UInt8) × (List Int) × Int)))
  | 0, _, _, _, _, _, _ => none
  | k + 1, v0, v1, v2, v3, v4, v5 => (bif (decide (v1 < v0)) then (bif (decide (0 ≤ v1) && decide (v1 < (v3).length)) then ((v3[Int.toNat v1]?).bind fun x2 => ((mfind (kt := .str) x2 v4).bind fun x3 => ((slices_Clone_byte_byte k x3.1).bind fun r4 => (bif room ((v5 ++ [(x2, (r4, x3.2))])).length 48 then disk_Disk_Files_p8 k v0 (IntKind.wrap .i64 (v1 + 1)) () v3 (mset (kt := .str) x2 (x3.1, x3.2) v4) (v5 ++ [(x2, (r4, x3.2))]) else none)))) else none) else some ((), v4, v5))
def disk_Disk_Files_u8 : Part := ⟨⟨[(0, .ptr 2000000 0), (3, .sref 500001), (8, .sref 500000)], [.val 9 (.int .i64), .val 10 (.int .i64), .cells 2000000 [.stat (.mref 1000000)], .arr 500000 .str, .pm 1000000, .arr 500001 (.pair .str (.pair (.slice (.int .u8)) (.int .i64)))]⟩, [(.exit 0, ⟨[(0, .ptr 2000000 0), (3, .sref 500001)], [.cells 2000000 [.stat (.mref 1000000)], .pm 1000000, .arr 500001 (.pair .str (.pair (.slice (.int .u8)) (.int .i64)))]⟩)], fun k x => disk_Disk_Files_p8 k x.1 x.2.1 x.2.2.1 x.2.2.2.1 x.2.2.2.2.1 x.2.2.2.2.2⟩
def disk_Disk_Files (k : Nat) (x0 : FL) : Option ((List ((List UInt8) × (List Int) × Int)) × FL) := ((disk_Disk_names k x0).bind fun r1 => ((disk_Disk_Files_p8 k ((r1.1).length : Int) 0 () r1.1 r1.2 []).bind fun o5 => some (o5.2.2, o5.2.1)))
def disk_Disk_Files_spec : FSpec := ⟨[.disk], [.own (.pair .str (.pair (.slice (.int .u8)) (.int .i64))), .backd], fun k x => disk_Disk_Files k x⟩
def disk_Disk_Files_parts : Parts := fun n => cond (Nat.beq n 8) (some disk_Disk_Files_u8) (none)
def disk_Disk_Files_env : List (Nat × FSpec) := [(27, disk_Disk_names_spec), (26, slices_Clone_byte_byte_spec)]
def law05_DiskSafe_p47 : Nat → Int → (List ((List UInt8) × (List Int) × Int)) → (List ((List UInt8) × (List Int) × Int)) → Option (Unit ⊕ Bool)
  | 0, _, _, _ => none
  | k + 1, v0, v1, v2 => (bif (decide (v0 < ((v1).length : Int))) then (bif (decide (0 ≤ v0) && decide (v0 < (v1).length)) then ((v1[Int.toNat v0]?).bind fun x10 => (bif (decide (0 ≤ v0) && decide (v0 < (v2).length)) then ((v2[Int.toNat v0]?).bind fun x11 => (bif (!(x10.1 == x11.1)) then some (.inr false) else (bif (decide (((x11.2.1).length : Int) < x10.2.2)) then some (.inr false) else (bif (decide (((x11.2.1).length : Int) > ((x10.2.1).length : Int))) then some (.inr false) else (bif (true && decide ((0 : Int) ≤ ((x11.2.1).length : Int)) && decide (((x11.2.1).length : Int) ≤ ((x10.2.1).length : Int))) then (bif (!((toBytes (cut x10.2.1 0 ((x11.2.1).length : Int))) == (toBytes x11.2.1))) then some (.inr false) else (bif (x11.2.2 != ((x11.2.1).length : Int)) then some (.inr false) else law05_DiskSafe_p47 k (IntKind.wrap .i64 (v0 + 1)) v1 v2)) else none))))) else none)) else none) else some (.inl ()))
def law05_DiskSafe_u47 : Part := ⟨⟨[(8, .sref 500000), (9, .sref 500001)], [.val 10 (.int .i64), .arr 500000 (.pair .str (.pair (.slice (.int .u8)) (.int .i64))), .arr 500001 (.pair .str (.pair (.slice (.int .u8)) (.int .i64)))]⟩, [(.exit 2, ⟨[], []⟩), (.ret, ⟨[], [.val 4 .bool]⟩)], fun k x => law05_DiskSafe_p47 k x.1 x.2.1 x.2.2⟩
def law05_DiskSafe_p18 : Nat → (List ((List UInt8) × (List Int) × Int)) → (List (Int × (List UInt8) × (List UInt8) × (List Int) × Int × List Int)) → (List Int) → Int → Unit → FL → Option (((List Int) × Unit × FL))
  | 0, _, _, _, _, _, _ => none
  | k + 1, v0, v1, v2, v3, v4, v5 => (bif (decide (v3 < ((v1).length : Int))) then (bif (decide (v3 < 100)) then ((at? v1 v3).bind fun e4 => ((law05_does k v5 v0 e4).bind fun r5 => law05_DiskSafe_p18 k r5.1 v1 v2 (IntKind.wrap .i64 (v3 + 1)) () r5.2.2)) else some (v2, (), v5)) else some (v2, (), v5))
def law05_DiskSafe_u18 : Part := ⟨⟨[(5, .ptr 500000 0)], [.val 6 (.slice (.pair .str (.pair (.slice (.int .u8)) (.int .i64)))), .val 0 (.slice (.pair (.int .i64) (.pair .str (.pair .str (.pair (.slice (.int .u8)) (.pair (.int .i64) (.slice (.int .i64)))))))), .val 1 (.slice (.int .i64)), .val 7 (.int .i64), .cells 500000 [.stat (.mref 500002)], .pm 500002]⟩, [(.exit 0, ⟨[(5, .ptr 500000 0)], [.val 1 (.slice (.int .i64)), .cells 500000 [.stat (.mref 500001)], .pm 500001]⟩)], fun k x => law05_DiskSafe_p18 k x.1 x.2.1 x.2.2.1 x.2.2.2.1 x.2.2.2.2.1 x.2.2.2.2.2⟩
def law05_DiskSafe (k : Nat) (x0 : List (Int × (List UInt8) × (List UInt8) × (List Int) × Int × List Int)) (x1 : List Int) : Option Bool := ((disk_New k ).bind fun r1 => ((law05_heavy k x0).bind fun r2 => (bif r2 then ((law05_awake k ).bind fun r3 => some r3) else ((law05_DiskSafe_p18 k [] x0 x1 0 () r1).bind fun o6 => ((disk_Disk_Files k o6.2.2).bind fun r7 => ((disk_Disk_Crash k r7.2 o6.1).bind fun r8 => ((disk_Disk_Files k r8).bind fun r9 => (bif (((r7.1).length : Int) != ((r9.1).length : Int)) then some false else ((law05_DiskSafe_p47 k 0 r7.1 r9.1).bind fun o12 => Sum.elim (fun a13 => ((law05_awake k ).bind fun r15 => some r15)) (fun b14 => some b14) o12)))))))))
def law05_DiskSafe_spec : FSpec := ⟨[.imm (.slice (.pair (.int .i64) (.pair .str (.pair .str (.pair (.slice (.int .u8)) (.pair (.int .i64) (.slice (.int .i64)))))))), .imm (.slice (.int .i64))], [.imm .bool], fun k x => law05_DiskSafe k x.1 x.2⟩
def law05_DiskSafe_parts : Parts := fun n => cond (Nat.beq n 47) (some law05_DiskSafe_u47) (cond (Nat.beq n 18) (some law05_DiskSafe_u18) (none))
def law05_DiskSafe_env : List (Nat × FSpec) := [(7, disk_New_spec), (12, law05_heavy_spec), (9, law05_awake_spec), (13, law05_does_spec), (11, disk_Disk_Files_spec), (14, disk_Disk_Crash_spec)]
def disk_Disk_is_zp (k : Nat) (x0 : Unit) : Option Bool := some false
def disk_Disk_is_zp_spec : FSpec := ⟨[.zd], [.imm .bool], fun k x => disk_Disk_is_zp k x⟩
def disk_Disk_is_zp_parts : Parts := fun _ => none
def disk_Disk_is_zp_env : List (Nat × FSpec) := []
def disk_Disk_names_zp (k : Nat) (x0 : Unit) : Option Unit := ((disk_Disk_is_zp k ()).bind fun r1 => (bif (!r1) then some () else none))
def disk_Disk_names_zp_spec : FSpec := ⟨[.zd], [.nils], fun k x => disk_Disk_names_zp k x⟩
def disk_Disk_names_zp_parts : Parts := fun _ => none
def disk_Disk_names_zp_env : List (Nat × FSpec) := [(23, disk_Disk_is_zp_spec)]
def disk_Disk_Crash_zp_p3 : Nat → (List Int) → Int → Int → Option Unit
  | 0, _, _, _ => none
  | k + 1, v0, v1, v2 => (bif (decide (v2 < v1)) then none else some ())
def disk_Disk_Crash_zp_u3 : Part := ⟨⟨[(9, .nils)], [.val 1 (.slice (.int .i64)), .val 10 (.int .i64), .val 11 (.int .i64)]⟩, [(.exit 0, ⟨[], []⟩)], fun k x => disk_Disk_Crash_zp_p3 k x.1 x.2.1 x.2.2⟩
def disk_Disk_Crash_zp (k : Nat) (x0 : Unit) (x1 : List Int) : Option Unit := ((disk_Disk_names_zp k ()).bind fun r1 => ((disk_Disk_Crash_zp_p3 k x1 0 0).bind fun o2 => some ()))
def disk_Disk_Crash_zp_spec : FSpec := ⟨[.zd, .imm (.slice (.int .i64))], [], fun k x => disk_Disk_Crash_zp k x.1 x.2⟩
def disk_Disk_Crash_zp_parts : Parts := fun n => cond (Nat.beq n 3) (some disk_Disk_Crash_zp_u3) (none)
def disk_Disk_Crash_zp_env : List (Nat × FSpec) := [(27, disk_Disk_names_zp_spec)]
def disk_Disk_find_zp (k : Nat) (x0 : Unit) (x1 : List UInt8) : Option (Unit × Int) := ((disk_Disk_is_zp k ()).bind fun r1 => (bif (!r1) then some ((), 1) else none))
def disk_Disk_find_zp_spec : FSpec := ⟨[.zd, .imm .str], [.nilp, .imm (.int .i64)], fun k x => disk_Disk_find_zp k x.1 x.2⟩
def disk_Disk_find_zp_parts : Parts := fun _ => none
def disk_Disk_find_zp_env : List (Nat × FSpec) := [(23, disk_Disk_is_zp_spec)]
def disk_Disk_Read_zp (k : Nat) (x0 : Unit) (x1 : List UInt8) : Option (Unit × Bool) := ((disk_Disk_find_zp k () x1).bind fun r1 => (bif (r1.2 != 0) then some ((), false) else none))
def disk_Disk_Read_zp_spec : FSpec := ⟨[.zd, .imm .str], [.nils, .imm .bool], fun k x => disk_Disk_Read_zp k x.1 x.2⟩
def disk_Disk_Read_zp_parts : Parts := fun _ => none
def disk_Disk_Read_zp_env : List (Nat × FSpec) := [(25, disk_Disk_find_zp_spec)]
def disk_Disk_Append_zp (k : Nat) (x0 : Unit) (x1 : List UInt8) (x2 : List Int) : Option Int := ((disk_Disk_is_zp k ()).bind fun r1 => (bif (!r1) then some 1 else ((disk_may k x1).bind fun r2 => (bif (!r2) then some 1 else none))))
def disk_Disk_Append_zp_spec : FSpec := ⟨[.zd, .imm .str, .imm (.slice (.int .u8))], [.imm (.int .i64)], fun k x => disk_Disk_Append_zp k x.1 x.2.1 x.2.2⟩
def disk_Disk_Append_zp_parts : Parts := fun _ => none
def disk_Disk_Append_zp_env : List (Nat × FSpec) := [(23, disk_Disk_is_zp_spec), (24, disk_may_spec)]
def disk_Disk_Sync_zp (k : Nat) (x0 : Unit) (x1 : List UInt8) : Option Int := ((disk_Disk_find_zp k () x1).bind fun r1 => (bif (r1.2 == 0) then none else some r1.2))
def disk_Disk_Sync_zp_spec : FSpec := ⟨[.zd, .imm .str], [.imm (.int .i64)], fun k x => disk_Disk_Sync_zp k x.1 x.2⟩
def disk_Disk_Sync_zp_parts : Parts := fun _ => none
def disk_Disk_Sync_zp_env : List (Nat × FSpec) := [(25, disk_Disk_find_zp_spec)]
def disk_Disk_Cut_zp (k : Nat) (x0 : Unit) (x1 : List UInt8) (x2 : Int) : Option Int := ((disk_Disk_find_zp k () x1).bind fun r1 => (bif (r1.2 != 0) then some r1.2 else (bif (decide (x2 < 0)) then some 1 else none)))
def disk_Disk_Cut_zp_spec : FSpec := ⟨[.zd, .imm .str, .imm (.int .i64)], [.imm (.int .i64)], fun k x => disk_Disk_Cut_zp k x.1 x.2.1 x.2.2⟩
def disk_Disk_Cut_zp_parts : Parts := fun _ => none
def disk_Disk_Cut_zp_env : List (Nat × FSpec) := [(25, disk_Disk_find_zp_spec)]
def disk_Disk_Rename_zp (k : Nat) (x0 : Unit) (x1 : List UInt8) (x2 : List UInt8) : Option Int := ((disk_Disk_find_zp k () x1).bind fun r1 => (bif (r1.2 != 0) then some r1.2 else ((disk_may k x2).bind fun r2 => (bif (!r2) then some 1 else none))))
def disk_Disk_Rename_zp_spec : FSpec := ⟨[.zd, .imm .str, .imm .str], [.imm (.int .i64)], fun k x => disk_Disk_Rename_zp k x.1 x.2.1 x.2.2⟩
def disk_Disk_Rename_zp_parts : Parts := fun _ => none
def disk_Disk_Rename_zp_env : List (Nat × FSpec) := [(25, disk_Disk_find_zp_spec), (24, disk_may_spec)]
def disk_Disk_Remove_zp (k : Nat) (x0 : Unit) (x1 : List UInt8) : Option Int := ((disk_Disk_find_zp k () x1).bind fun r1 => (bif (r1.2 == 0) then none else some r1.2))
def disk_Disk_Remove_zp_spec : FSpec := ⟨[.zd, .imm .str], [.imm (.int .i64)], fun k x => disk_Disk_Remove_zp k x.1 x.2⟩
def disk_Disk_Remove_zp_parts : Parts := fun _ => none
def disk_Disk_Remove_zp_env : List (Nat × FSpec) := [(25, disk_Disk_find_zp_spec)]
def disk_Disk_Files_zp_p8 : Nat → Int → Int → Option Unit
  | 0, _, _ => none
  | k + 1, v0, v1 => (bif (decide (v1 < v0)) then none else some ())
def disk_Disk_Files_zp_u8 : Part := ⟨⟨[(3, .nils), (8, .nils)], [.val 9 (.int .i64), .val 10 (.int .i64)]⟩, [(.exit 0, ⟨[(3, .nils)], []⟩)], fun k x => disk_Disk_Files_zp_p8 k x.1 x.2⟩
def disk_Disk_Files_zp (k : Nat) (x0 : Unit) : Option Unit := ((disk_Disk_names_zp k ()).bind fun r1 => ((disk_Disk_Files_zp_p8 k 0 0).bind fun o2 => some ()))
def disk_Disk_Files_zp_spec : FSpec := ⟨[.zd], [.nils], fun k x => disk_Disk_Files_zp k x⟩
def disk_Disk_Files_zp_parts : Parts := fun n => cond (Nat.beq n 8) (some disk_Disk_Files_zp_u8) (none)
def disk_Disk_Files_zp_env : List (Nat × FSpec) := [(27, disk_Disk_names_zp_spec)]
def disk_Disk_is_np (k : Nat) (x0 : Unit) : Option Bool := some false
def disk_Disk_is_np_spec : FSpec := ⟨[.nilp], [.imm .bool], fun k x => disk_Disk_is_np k x⟩
def disk_Disk_is_np_parts : Parts := fun _ => none
def disk_Disk_is_np_env : List (Nat × FSpec) := []
def disk_Disk_names_np (k : Nat) (x0 : Unit) : Option Unit := ((disk_Disk_is_np k ()).bind fun r1 => (bif (!r1) then some () else none))
def disk_Disk_names_np_spec : FSpec := ⟨[.nilp], [.nils], fun k x => disk_Disk_names_np k x⟩
def disk_Disk_names_np_parts : Parts := fun _ => none
def disk_Disk_names_np_env : List (Nat × FSpec) := [(23, disk_Disk_is_np_spec)]
def disk_Disk_Crash_np_p3 : Nat → (List Int) → Int → Int → Option Unit
  | 0, _, _, _ => none
  | k + 1, v0, v1, v2 => (bif (decide (v2 < v1)) then none else some ())
def disk_Disk_Crash_np_u3 : Part := ⟨⟨[(0, .nilp), (9, .nils)], [.val 1 (.slice (.int .i64)), .val 10 (.int .i64), .val 11 (.int .i64)]⟩, [(.exit 0, ⟨[], []⟩)], fun k x => disk_Disk_Crash_np_p3 k x.1 x.2.1 x.2.2⟩
def disk_Disk_Crash_np (k : Nat) (x0 : Unit) (x1 : List Int) : Option Unit := ((disk_Disk_names_np k ()).bind fun r1 => ((disk_Disk_Crash_np_p3 k x1 0 0).bind fun o2 => some ()))
def disk_Disk_Crash_np_spec : FSpec := ⟨[.nilp, .imm (.slice (.int .i64))], [], fun k x => disk_Disk_Crash_np k x.1 x.2⟩
def disk_Disk_Crash_np_parts : Parts := fun n => cond (Nat.beq n 3) (some disk_Disk_Crash_np_u3) (none)
def disk_Disk_Crash_np_env : List (Nat × FSpec) := [(27, disk_Disk_names_np_spec)]
def disk_Disk_find_np (k : Nat) (x0 : Unit) (x1 : List UInt8) : Option (Unit × Int) := ((disk_Disk_is_np k ()).bind fun r1 => (bif (!r1) then some ((), 1) else none))
def disk_Disk_find_np_spec : FSpec := ⟨[.nilp, .imm .str], [.nilp, .imm (.int .i64)], fun k x => disk_Disk_find_np k x.1 x.2⟩
def disk_Disk_find_np_parts : Parts := fun _ => none
def disk_Disk_find_np_env : List (Nat × FSpec) := [(23, disk_Disk_is_np_spec)]
def disk_Disk_Read_np (k : Nat) (x0 : Unit) (x1 : List UInt8) : Option (Unit × Bool) := ((disk_Disk_find_np k () x1).bind fun r1 => (bif (r1.2 != 0) then some ((), false) else none))
def disk_Disk_Read_np_spec : FSpec := ⟨[.nilp, .imm .str], [.nils, .imm .bool], fun k x => disk_Disk_Read_np k x.1 x.2⟩
def disk_Disk_Read_np_parts : Parts := fun _ => none
def disk_Disk_Read_np_env : List (Nat × FSpec) := [(25, disk_Disk_find_np_spec)]
def disk_Disk_Append_np (k : Nat) (x0 : Unit) (x1 : List UInt8) (x2 : List Int) : Option Int := ((disk_Disk_is_np k ()).bind fun r1 => (bif (!r1) then some 1 else ((disk_may k x1).bind fun r2 => (bif (!r2) then some 1 else none))))
def disk_Disk_Append_np_spec : FSpec := ⟨[.nilp, .imm .str, .imm (.slice (.int .u8))], [.imm (.int .i64)], fun k x => disk_Disk_Append_np k x.1 x.2.1 x.2.2⟩
def disk_Disk_Append_np_parts : Parts := fun _ => none
def disk_Disk_Append_np_env : List (Nat × FSpec) := [(23, disk_Disk_is_np_spec), (24, disk_may_spec)]
def disk_Disk_Sync_np (k : Nat) (x0 : Unit) (x1 : List UInt8) : Option Int := ((disk_Disk_find_np k () x1).bind fun r1 => (bif (r1.2 == 0) then none else some r1.2))
def disk_Disk_Sync_np_spec : FSpec := ⟨[.nilp, .imm .str], [.imm (.int .i64)], fun k x => disk_Disk_Sync_np k x.1 x.2⟩
def disk_Disk_Sync_np_parts : Parts := fun _ => none
def disk_Disk_Sync_np_env : List (Nat × FSpec) := [(25, disk_Disk_find_np_spec)]
def disk_Disk_Cut_np (k : Nat) (x0 : Unit) (x1 : List UInt8) (x2 : Int) : Option Int := ((disk_Disk_find_np k () x1).bind fun r1 => (bif (r1.2 != 0) then some r1.2 else (bif (decide (x2 < 0)) then some 1 else none)))
def disk_Disk_Cut_np_spec : FSpec := ⟨[.nilp, .imm .str, .imm (.int .i64)], [.imm (.int .i64)], fun k x => disk_Disk_Cut_np k x.1 x.2.1 x.2.2⟩
def disk_Disk_Cut_np_parts : Parts := fun _ => none
def disk_Disk_Cut_np_env : List (Nat × FSpec) := [(25, disk_Disk_find_np_spec)]
def disk_Disk_Rename_np (k : Nat) (x0 : Unit) (x1 : List UInt8) (x2 : List UInt8) : Option Int := ((disk_Disk_find_np k () x1).bind fun r1 => (bif (r1.2 != 0) then some r1.2 else ((disk_may k x2).bind fun r2 => (bif (!r2) then some 1 else none))))
def disk_Disk_Rename_np_spec : FSpec := ⟨[.nilp, .imm .str, .imm .str], [.imm (.int .i64)], fun k x => disk_Disk_Rename_np k x.1 x.2.1 x.2.2⟩
def disk_Disk_Rename_np_parts : Parts := fun _ => none
def disk_Disk_Rename_np_env : List (Nat × FSpec) := [(25, disk_Disk_find_np_spec), (24, disk_may_spec)]
def disk_Disk_Remove_np (k : Nat) (x0 : Unit) (x1 : List UInt8) : Option Int := ((disk_Disk_find_np k () x1).bind fun r1 => (bif (r1.2 == 0) then none else some r1.2))
def disk_Disk_Remove_np_spec : FSpec := ⟨[.nilp, .imm .str], [.imm (.int .i64)], fun k x => disk_Disk_Remove_np k x.1 x.2⟩
def disk_Disk_Remove_np_parts : Parts := fun _ => none
def disk_Disk_Remove_np_env : List (Nat × FSpec) := [(25, disk_Disk_find_np_spec)]
def disk_Disk_Files_np_p8 : Nat → Int → Int → Option Unit
  | 0, _, _ => none
  | k + 1, v0, v1 => (bif (decide (v1 < v0)) then none else some ())
def disk_Disk_Files_np_u8 : Part := ⟨⟨[(0, .nilp), (3, .nils), (8, .nils)], [.val 9 (.int .i64), .val 10 (.int .i64)]⟩, [(.exit 0, ⟨[(3, .nils)], []⟩)], fun k x => disk_Disk_Files_np_p8 k x.1 x.2⟩
def disk_Disk_Files_np (k : Nat) (x0 : Unit) : Option Unit := ((disk_Disk_names_np k ()).bind fun r1 => ((disk_Disk_Files_np_p8 k 0 0).bind fun o2 => some ()))
def disk_Disk_Files_np_spec : FSpec := ⟨[.nilp], [.nils], fun k x => disk_Disk_Files_np k x⟩
def disk_Disk_Files_np_parts : Parts := fun n => cond (Nat.beq n 8) (some disk_Disk_Files_np_u8) (none)
def disk_Disk_Files_np_env : List (Nat × FSpec) := [(27, disk_Disk_names_np_spec)]
def law05_DiskNobody_p6 : Nat → Int → (Int × (List UInt8) × (List UInt8) × (List Int) × Int × List Int) → Option (Unit ⊕ Bool)
  | 0, _, _ => none
  | k + 1, v0, v1 => (bif (decide (v0 < 2)) then (bif (v0 == 1) then ((disk_Disk_Crash_zp k () v1.2.2.2.2.2).bind fun r1 => ((disk_Disk_Read_zp k () v1.2.1).bind fun r2 => ((disk_Disk_Append_zp k () v1.2.1 v1.2.2.2.1).bind fun r3 => (bif (r3 != 1) then some (.inr false) else ((disk_Disk_Sync_zp k () v1.2.1).bind fun r4 => (bif (r4 != 1) then some (.inr false) else ((disk_Disk_Cut_zp k () v1.2.1 v1.2.2.2.2.1).bind fun r5 => (bif (r5 != 1) then some (.inr false) else ((disk_Disk_Rename_zp k () v1.2.1 v1.2.2.1).bind fun r6 => (bif (r6 != 1) then some (.inr false) else ((disk_Disk_Remove_zp k () v1.2.1).bind fun r7 => (bif (r7 != 1) then some (.inr false) else (bif r2.2 then some (.inr false) else ((disk_Disk_Files_zp k ()).bind fun r8 => law05_DiskNobody_p6 k (IntKind.wrap .i64 (v0 + 1)) v1)))))))))))))) else ((disk_Disk_Crash_np k () v1.2.2.2.2.2).bind fun r9 => ((disk_Disk_Read_np k () v1.2.1).bind fun r10 => ((disk_Disk_Append_np k () v1.2.1 v1.2.2.2.1).bind fun r11 => (bif (r11 != 1) then some (.inr false) else ((disk_Disk_Sync_np k () v1.2.1).bind fun r12 => (bif (r12 != 1) then some (.inr false) else ((disk_Disk_Cut_np k () v1.2.1 v1.2.2.2.2.1).bind fun r13 => (bif (r13 != 1) then some (.inr false) else ((disk_Disk_Rename_np k () v1.2.1 v1.2.2.1).bind fun r14 => (bif (r14 != 1) then some (.inr false) else ((disk_Disk_Remove_np k () v1.2.1).bind fun r15 => (bif (r15 != 1) then some (.inr false) else (bif r10.2 then some (.inr false) else ((disk_Disk_Files_np k ()).bind fun r16 => law05_DiskNobody_p6 k (IntKind.wrap .i64 (v0 + 1)) v1))))))))))))))) else some (.inl ()))
def law05_DiskNobody_u6 : Part := ⟨⟨[(1, .ptr 500000 0)], [.val 3 (.int .i64), .cells 500000 [.dyn (.int .i64), .dyn .str, .dyn .str, .dyn (.slice (.int .u8)), .dyn (.int .i64), .dyn (.slice (.int .i64))]]⟩, [(.exit 0, ⟨[], []⟩), (.ret, ⟨[], [.val 2 .bool]⟩)], fun k x => law05_DiskNobody_p6 k x.1 x.2⟩
def law05_DiskNobody (k : Nat) (x0 : Int × (List UInt8) × (List UInt8) × (List Int) × Int × List Int) : Option Bool := ((law05_DiskNobody_p6 k 0 x0).bind fun o17 => Sum.elim (fun a18 => ((law05_awake k ).bind fun r20 => some r20)) (fun b19 => some b19) o17)
def law05_DiskNobody_spec : FSpec := ⟨[.agg (.pair (.int .i64) (.pair .str (.pair .str (.pair (.slice (.int .u8)) (.pair (.int .i64) (.slice (.int .i64)))))))], [.imm .bool], fun k x => law05_DiskNobody k x⟩
def law05_DiskNobody_parts : Parts := fun n => cond (Nat.beq n 6) (some law05_DiskNobody_u6) (none)
def law05_DiskNobody_env : List (Nat × FSpec) := [(14, disk_Disk_Crash_zp_spec), (10, disk_Disk_Read_zp_spec), (8, disk_Disk_Append_zp_spec), (15, disk_Disk_Sync_zp_spec), (16, disk_Disk_Cut_zp_spec), (17, disk_Disk_Rename_zp_spec), (18, disk_Disk_Remove_zp_spec), (11, disk_Disk_Files_zp_spec), (14, disk_Disk_Crash_np_spec), (10, disk_Disk_Read_np_spec), (8, disk_Disk_Append_np_spec), (15, disk_Disk_Sync_np_spec), (16, disk_Disk_Cut_np_spec), (17, disk_Disk_Rename_np_spec), (18, disk_Disk_Remove_np_spec), (11, disk_Disk_Files_np_spec), (9, law05_awake_spec)]
def disk_Load_p8 : Nat → (List ((List UInt8) × (List Int) × Int)) → (List ((List UInt8) × (List Int) × Int)) → Int → Int → Unit → FL → Option ((Unit × FL) ⊕ Int)
  | 0, _, _, _, _, _, _ => none
  | k + 1, v0, v1, v2, v3, v4, v5 => (bif (decide (v3 < v2)) then ((at? v1 v3).bind fun e2 => (bif (decide (((v0).length : Int) > 64)) then some (.inr 1) else ((disk_may k e2.1).bind fun r3 => (bif (!r3) then some (.inr 1) else (bif (decide (((e2.2.1).length : Int) > 65536)) then some (.inr 1) else (bif (decide (e2.2.2 < 0)) then some (.inr 1) else (bif (decide (e2.2.2 > ((e2.2.1).length : Int))) then some (.inr 1) else (bif (decide (v3 > 0)) then ((at? v0 (IntKind.wrap .i64 (v3 - 1))).bind fun e4 => (bif (strLess e2.1 e4.1 || e2.1 == e4.1) then some (.inr 1) else ((slices_Clone_byte_byte k e2.2.1).bind fun r5 => disk_Load_p8 k v0 v1 v2 (IntKind.wrap .i64 (v3 + 1)) () (mset (kt := .str) e2.1 (r5, e2.2.2) v5)))) else ((slices_Clone_byte_byte k e2.2.1).bind fun r6 => disk_Load_p8 k v0 v1 v2 (IntKind.wrap .i64 (v3 + 1)) () (mset (kt := .str) e2.1 (r6, e2.2.2) v5)))))))))) else some (.inl ((), v5)))
def disk_Load_u8 : Part := ⟨⟨[(4, .ptr 500000 0)], [.val 0 (.slice (.pair .str (.pair (.slice (.int .u8)) (.int .i64)))), .val 8 (.slice (.pair .str (.pair (.slice (.int .u8)) (.int .i64)))), .val 9 (.int .i64), .val 10 (.int .i64), .cells 500000 [.stat (.mref 500001)], .pm 500001]⟩, [(.exit 0, ⟨[(4, .ptr 500000 0)], [.cells 500000 [.stat (.mref 500001)], .pm 500001]⟩), (.ret, ⟨[(2, .nilp)], [.val 3 (.int .i64)]⟩)], fun k x => disk_Load_p8 k x.1 x.2.1 x.2.2.1 x.2.2.2.1 x.2.2.2.2.1 x.2.2.2.2.2⟩
def disk_Load (k : Nat) (x0 : List ((List UInt8) × (List Int) × Int)) : Option ((Option FL) × Int) := ((disk_New k ).bind fun r1 => ((disk_Load_p8 k x0 x0 ((x0).length : Int) 0 () r1).bind fun o7 => Sum.elim (fun a8 => some ((some a8.2), 0)) (fun b9 => some (none, b9)) o7))
def disk_Load_spec : FSpec := ⟨[.imm (.slice (.pair .str (.pair (.slice (.int .u8)) (.int .i64))))], [.ofreshd, .imm (.int .i64)], fun k x => disk_Load k x⟩
def disk_Load_parts : Parts := fun n => cond (Nat.beq n 8) (some disk_Load_u8) (none)
def disk_Load_env : List (Nat × FSpec) := [(7, disk_New_spec), (24, disk_may_spec), (26, slices_Clone_byte_byte_spec)]
def ref05_May_p14 : Nat → (List ((List UInt8) × (List Int) × Int)) → Int → Option (Unit ⊕ Bool)
  | 0, _, _ => none
  | k + 1, v0, v1 => (bif (decide (v1 < ((v0).length : Int))) then ((at? v0 v1).bind fun e1 => ((ref05_Name k e1.1).bind fun r2 => (bif (!r2) then some (.inr false) else (bif (decide (((e1.2.1).length : Int) > 65536)) then some (.inr false) else (bif (decide (e1.2.2 < 0)) then some (.inr false) else (bif (decide (e1.2.2 > ((e1.2.1).length : Int))) then some (.inr false) else (bif (decide (v1 > 0)) then ((at? v0 (IntKind.wrap .i64 (v1 - 1))).bind fun e3 => (bif (strLess e1.1 e3.1 || e1.1 == e3.1) then some (.inr false) else ref05_May_p14 k v0 (IntKind.wrap .i64 (v1 + 1)))) else ref05_May_p14 k v0 (IntKind.wrap .i64 (v1 + 1))))))))) else some (.inl ()))
def ref05_May_u14 : Part := ⟨⟨[], [.val 0 (.slice (.pair .str (.pair (.slice (.int .u8)) (.int .i64)))), .val 3 (.int .i64)]⟩, [(.exit 0, ⟨[], []⟩), (.ret, ⟨[], [.val 2 .bool]⟩)], fun k x => ref05_May_p14 k x.1 x.2⟩
def ref05_May (k : Nat) (x0 : List ((List UInt8) × (List Int) × Int)) : Option Bool := (bif (decide (((x0).length : Int) > 64)) then some false else ((ref05_May_p14 k x0 0).bind fun o4 => Sum.elim (fun a5 => some true) (fun b6 => some b6) o4))
def ref05_May_spec : FSpec := ⟨[.imm (.slice (.pair .str (.pair (.slice (.int .u8)) (.int .i64))))], [.imm .bool], fun k x => ref05_May k x⟩
def ref05_May_parts : Parts := fun n => cond (Nat.beq n 14) (some ref05_May_u14) (none)
def ref05_May_env : List (Nat × FSpec) := [(34, ref05_Name_spec)]
def ref05_Read (k : Nat) (x0 : List ((List UInt8) × (List Int) × Int)) (x1 : List UInt8) : Option ((List Int) × Bool) := ((ref05_place k x0 x1).bind fun r1 => (bif (decide (r1 < 0)) then some ([], false) else ((at? x0 r1).bind fun e2 => some (e2.2.1, true))))
def ref05_Read_spec : FSpec := ⟨[.imm (.slice (.pair .str (.pair (.slice (.int .u8)) (.int .i64)))), .imm .str], [.imm (.slice (.int .u8)), .imm .bool], fun k x => ref05_Read k x.1 x.2⟩
def ref05_Read_parts : Parts := fun _ => none
def ref05_Read_env : List (Nat × FSpec) := [(35, ref05_place_spec)]
def ref05_Same_p14 : Nat → (List ((List UInt8) × (List Int) × Int)) → (List ((List UInt8) × (List Int) × Int)) → Int → Option (Unit ⊕ Bool)
  | 0, _, _, _ => none
  | k + 1, v0, v1, v2 => (bif (decide (v2 < ((v0).length : Int))) then ((at? v0 v2).bind fun e1 => ((at? v1 v2).bind fun e2 => (bif (!(e1.1 == e2.1)) then some (.inr false) else ((at? v0 v2).bind fun e3 => ((at? v1 v2).bind fun e4 => (bif (e3.2.2 != e4.2.2) then some (.inr false) else ((at? v0 v2).bind fun e5 => ((at? v1 v2).bind fun e6 => (bif (!((toBytes e5.2.1) == (toBytes e6.2.1))) then some (.inr false) else ref05_Same_p14 k v0 v1 (IntKind.wrap .i64 (v2 + 1))))))))))) else some (.inl ()))
def ref05_Same_u14 : Part := ⟨⟨[], [.val 0 (.slice (.pair .str (.pair (.slice (.int .u8)) (.int .i64)))), .val 1 (.slice (.pair .str (.pair (.slice (.int .u8)) (.int .i64)))), .val 5 (.int .i64)]⟩, [(.exit 0, ⟨[], []⟩), (.ret, ⟨[], [.val 4 .bool]⟩)], fun k x => ref05_Same_p14 k x.1 x.2.1 x.2.2⟩
def ref05_Same (k : Nat) (x0 : List ((List UInt8) × (List Int) × Int)) (x1 : List ((List UInt8) × (List Int) × Int)) : Option Bool := (bif (((x0).length : Int) != ((x1).length : Int)) then some false else ((ref05_Same_p14 k x0 x1 0).bind fun o7 => Sum.elim (fun a8 => some true) (fun b9 => some b9) o7))
def ref05_Same_spec : FSpec := ⟨[.imm (.slice (.pair .str (.pair (.slice (.int .u8)) (.int .i64)))), .imm (.slice (.pair .str (.pair (.slice (.int .u8)) (.int .i64))))], [.imm .bool], fun k x => ref05_Same k x.1 x.2⟩
def ref05_Same_parts : Parts := fun n => cond (Nat.beq n 14) (some ref05_Same_u14) (none)
def ref05_Same_env : List (Nat × FSpec) := []
def law05_DiskActs_p32 : Nat → (List ((List UInt8) × (List Int) × Int)) → (List (Int × (List UInt8) × (List UInt8) × (List Int) × Int × List Int)) → Int → Unit → FL → Option (((List ((List UInt8) × (List Int) × Int)) × Unit × FL) ⊕ Bool)
  | 0, _, _, _, _, _ => none
  | k + 1, v0, v1, v2, v3, v4 => (bif (decide (v2 < ((v1).length : Int))) then (bif (decide (v2 < 100)) then ((at? v1 v2).bind fun e9 => ((law05_does k v4 v0 e9).bind fun r10 => (bif (!r10.2.1) then some (.inr false) else ((at? v1 v2).bind fun e11 => ((disk_Disk_Read k r10.2.2 e11.2.1).bind fun r12 => ((at? v1 v2).bind fun e13 => ((ref05_Read k r10.1 e13.2.1).bind fun r14 => (bif (!(r12.2.1 == r14.2)) then some (.inr false) else (bif (!((toBytes r12.1) == (toBytes r14.1))) then some (.inr false) else law05_DiskActs_p32 k r10.1 v1 (IntKind.wrap .i64 (v2 + 1)) () r12.2.2))))))))) else some (.inl (v0, (), v4))) else some (.inl (v0, (), v4)))
def law05_DiskActs_u32 : Part := ⟨⟨[(5, .ptr 500000 0)], [.val 0 (.slice (.pair .str (.pair (.slice (.int .u8)) (.int .i64)))), .val 1 (.slice (.pair (.int .i64) (.pair .str (.pair .str (.pair (.slice (.int .u8)) (.pair (.int .i64) (.slice (.int .i64)))))))), .val 7 (.int .i64), .cells 500000 [.stat (.mref 500001)], .pm 500001]⟩, [(.exit 0, ⟨[(5, .ptr 500000 0)], [.val 0 (.slice (.pair .str (.pair (.slice (.int .u8)) (.int .i64)))), .cells 500000 [.stat (.mref 500001)], .pm 500001]⟩), (.ret, ⟨[], [.val 4 .bool]⟩)], fun k x => law05_DiskActs_p32 k x.1 x.2.1 x.2.2.1 x.2.2.2.1 x.2.2.2.2⟩
def law05_DiskActs (k : Nat) (x0 : List ((List UInt8) × (List Int) × Int)) (x1 : List (Int × (List UInt8) × (List UInt8) × (List Int) × Int × List Int)) : Option Bool := ((disk_Load k x0).bind fun r1 => ((r1.1).elim (((ref05_May k x0).bind fun r3 => (bif (!r3) then (bif (r1.2 == 1) then ((law05_awake k ).bind fun r4 => some r4) else some false) else (bif (r1.2 != 0) then some false else some false)))) fun l2 => ((ref05_May k x0).bind fun r5 => (bif (!r5) then (bif (r1.2 == 1) then some false else some false) else (bif (r1.2 != 0) then some false else ((law05_heavy k x1).bind fun r6 => (bif r6 then ((law05_awake k ).bind fun r7 => some r7) else (bif (decide (((x0).length : Int) > 8)) then ((law05_awake k ).bind fun r8 => some r8) else ((law05_DiskActs_p32 k x0 x1 0 () l2).bind fun o15 => Sum.elim (fun a16 => ((disk_Disk_Files k a16.2.2).bind fun r18 => ((ref05_Same k r18.1 a16.1).bind fun r19 => (bif r19 then ((law05_awake k ).bind fun r20 => some r20) else some false)))) (fun b17 => some b17) o15)))))))))
def law05_DiskActs_spec : FSpec := ⟨[.imm (.slice (.pair .str (.pair (.slice (.int .u8)) (.int .i64)))), .imm (.slice (.pair (.int .i64) (.pair .str (.pair .str (.pair (.slice (.int .u8)) (.pair (.int .i64) (.slice (.int .i64))))))))], [.imm .bool], fun k x => law05_DiskActs k x.1 x.2⟩
def law05_DiskActs_parts : Parts := fun n => cond (Nat.beq n 32) (some law05_DiskActs_u32) (none)
def law05_DiskActs_env : List (Nat × FSpec) := [(19, disk_Load_spec), (20, ref05_May_spec), (9, law05_awake_spec), (12, law05_heavy_spec), (13, law05_does_spec), (10, disk_Disk_Read_spec), (21, ref05_Read_spec), (11, disk_Disk_Files_spec), (22, ref05_Same_spec)]
end Go.Proofs.YtababmeocedhiaaDoor.gg
