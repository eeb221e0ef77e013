/- What the functions compute: printed by a program of our own. -/
import Derived.Test.YtababmeocedhiaaDoorK6
import Derived.Test.YtababmeocedhiaaDoorK5
import Derived.Test.YtababmeocedhiaaDoorLaidI
import Derived.Test.YtababmeocedhiaaDoorTrimI
import Derived.Test.YtababmeocedhiaaDoorKeysI
open Go Go.GG
set_option linter.unusedVariables false
namespace Go.Proofs.YtababmeocedhiaaDoor.gg
instance tabs : Tabs := ⟨tabsOf []⟩
def tab : Tab := [(3, ⟨.int .i64, 1, 8, [.int .i64 0], some (.int .i64), false⟩),
  (5, ⟨.int .u8, 1, 1, [.int .u8 0], some (.int .u8), false⟩),
  (9, ⟨.str, 1, 16, [.string ⟨#[]⟩], some .str, false⟩),
  (22, ⟨.slice 5, 1, 24, [.slice none 0 0], some (.slice (.int .u8)), false⟩),
  (23, ⟨.ptr 46, 1, 8, [.pointer none], none, false⟩),
  (25, ⟨.int .i64, 1, 8, [.int .i64 0], some (.int .i64), false⟩),
  (36, ⟨.slice 3, 1, 24, [.slice none 0 0], some (.slice (.int .i64)), false⟩),
  (44, ⟨.map 9 58, 1, 8, [.map none], none, false⟩),
  (46, ⟨.struct [(44, 0)], 1, 8, [.map none], none, false⟩),
  (58, ⟨.ptr 61, 1, 8, [.pointer none], none, false⟩),
  (61, ⟨.struct [(22, 0), (3, 1)], 2, 32, [.slice none 0 0, .int .i64 0], some (.pair (.slice (.int .u8)) (.int .i64)), false⟩),
  (65, ⟨.slice 9, 1, 24, [.slice none 0 0], some (.slice .str), false⟩)]
def disk_Disk_is (k : Nat) (x0 : FL) : Option (Bool × FL) := some (true, x0)
def disk_Disk_is_spec : FSpec := ⟨[.disk], [.imm .bool, .backd], fun k x => disk_Disk_is k x⟩
def disk_Disk_is_parts : Parts := fun _ => none
def disk_Disk_is_env : List (Nat × FSpec) := []
def disk_Disk_find (k : Nat) (x0 : FL) (x1 : List UInt8) : Option ((FL × Option (List UInt8)) × Int) := ((disk_Disk_is k x0).bind fun r1 => (bif (!r1.1) then some ((r1.2, none), 1) else ((mfind (kt := .str) x1 r1.2).elim (some ((r1.2, none), 4)) fun w2 => some (((mset (kt := .str) x1 (w2.1, w2.2) r1.2), some x1), 0))))
def disk_Disk_find_spec : FSpec := ⟨[.disk, .imm .str], [.find, .imm (.int .i64)], fun k x => disk_Disk_find k x.1 x.2⟩
def disk_Disk_find_parts : Parts := fun _ => none
def disk_Disk_find_env : List (Nat × FSpec) := [(23, disk_Disk_is_spec)]
def slices_Clone_byte_byte_nil (k : Nat) (x0 : Unit) : Option (List Int) := some []
def slices_Clone_byte_byte_nil_spec : FSpec := ⟨[.nils], [.own (.int .u8)], fun k x => slices_Clone_byte_byte_nil k x⟩
def slices_Clone_byte_byte_nil_parts : Parts := fun _ => none
def slices_Clone_byte_byte_nil_env : List (Nat × FSpec) := []
def slices_Clone_byte_byte (k : Nat) (x0 : List Int) : Option (List Int) := (bif room (([] ++ x0)).length 1 then some ([] ++ x0) else none)
def slices_Clone_byte_byte_spec : FSpec := ⟨[.imm (.slice (.int .u8))], [.own (.int .u8)], fun k x => slices_Clone_byte_byte k x⟩
def slices_Clone_byte_byte_sspec : FSpec := ⟨[.nnil (.int .u8)], [.own (.int .u8)], fun k x => slices_Clone_byte_byte k x⟩
def slices_Clone_byte_byte_parts : Parts := fun _ => none
def slices_Clone_byte_byte_env : List (Nat × FSpec) := []
def disk_Disk_Read (k : Nat) (x0 : FL) (x1 : List UInt8) : Option ((List Int) × Bool × FL) := ((disk_Disk_find k x0 x1).bind fun r1 => ((r1.1.2).elim ((bif (r1.2 != 0) then some ([], false, r1.1.1) else none)) fun k2 => ((mfind (kt := .str) k2 r1.1.1).bind fun w3 => (bif (r1.2 != 0) then some ([], false, (mset (kt := .str) k2 (w3.1, w3.2) r1.1.1)) else ((slices_Clone_byte_byte k w3.1).bind fun r4 => some (r4, true, (mset (kt := .str) k2 (w3.1, w3.2) r1.1.1)))))))
def disk_Disk_Read_spec : FSpec := ⟨[.disk, .imm .str], [.own (.int .u8), .imm .bool, .backd], fun k x => disk_Disk_Read k x.1 x.2⟩
def disk_Disk_Read_parts : Parts := fun _ => none
def disk_Disk_Read_env : List (Nat × FSpec) := [(25, disk_Disk_find_spec), (26, slices_Clone_byte_byte_spec)]
def disk_New (k : Nat) : Option FL := some ([] : FL)
def disk_New_spec : FSpec := ⟨[], [.freshd], fun k x => disk_New k⟩
def disk_New_parts : Parts := fun _ => none
def disk_New_env : List (Nat × FSpec) := []
def strings_Trim_spec : FSpec := trimSpec
def disk_may (k : Nat) (x0 : List UInt8) : Option Bool := (bif (decide (((x0).length : Int) ≥ 1)) then (bif (decide (((x0).length : Int) ≤ 32)) then ((trimF x0 [97, 98, 99, 100, 101, 102, 103, 104, 105, 106, 107, 108, 109, 110, 111, 112, 113, 114, 115, 116, 117, 118, 119, 120, 121, 122, 48, 49, 50, 51, 52, 53, 54, 55, 56, 57, 46, 45]).bind fun r1 => some (r1 == [])) else some false) else some false)
def disk_may_spec : FSpec := ⟨[.imm .str], [.imm .bool], fun k x => disk_may k x⟩
def disk_may_parts : Parts := fun _ => none
def disk_may_env : List (Nat × FSpec) := [(36, strings_Trim_spec)]
def disk_Disk_Append (k : Nat) (x0 : FL) (x1 : List UInt8) (x2 : List Int) : Option (Int × FL) := ((disk_Disk_is k x0).bind fun r1 => (bif (!r1.1) then some (1, r1.2) else ((disk_may k x1).bind fun r2 => (bif (!r2) then some (1, r1.2) else ((mfind (kt := .str) x1 r1.2).elim ((bif (decide (((r1.2).length : Int) ≥ 64)) then some (2, r1.2) else (bif (decide (((x2).length : Int) > 65536)) then some (2, r1.2) else (bif room (x2).length 1 then some (0, (mset (kt := .str) x1 (x2, 0) r1.2)) else none)))) fun w3 => (bif (decide (((x2).length : Int) > (IntKind.wrap .i64 (65536 - ((w3.1).length : Int))))) then some (2, (mset (kt := .str) x1 (w3.1, w3.2) r1.2)) else (bif room ((w3.1 ++ x2)).length 1 then (bif ((x1 == x1) && true) then some (0, (mset (kt := .str) x1 ((w3.1 ++ x2), w3.2) r1.2)) else none) else none)))))))
def disk_Disk_Append_spec : FSpec := ⟨[.disk, .imm .str, .imm (.slice (.int .u8))], [.imm (.int .i64), .backd], fun k x => disk_Disk_Append k x.1 x.2.1 x.2.2⟩
def disk_Disk_Append_parts : Parts := fun _ => none
def disk_Disk_Append_env : List (Nat × FSpec) := [(23, disk_Disk_is_spec), (24, disk_may_spec)]
def disk_Disk_Sync (k : Nat) (x0 : FL) (x1 : List UInt8) : Option (Int × FL) := ((disk_Disk_find k x0 x1).bind fun r1 => ((r1.1.2).elim ((bif (r1.2 == 0) then none else some (r1.2, r1.1.1))) fun k2 => ((mfind (kt := .str) k2 r1.1.1).bind fun w3 => (bif (r1.2 == 0) then some (r1.2, (mset (kt := .str) k2 (w3.1, ((w3.1).length : Int)) r1.1.1)) else some (r1.2, (mset (kt := .str) k2 (w3.1, w3.2) r1.1.1))))))
def disk_Disk_Sync_spec : FSpec := ⟨[.disk, .imm .str], [.imm (.int .i64), .backd], fun k x => disk_Disk_Sync k x.1 x.2⟩
def disk_Disk_Sync_parts : Parts := fun _ => none
def disk_Disk_Sync_env : List (Nat × FSpec) := [(25, disk_Disk_find_spec)]
def maps_Keys_map_string_disk_file_string_disk_file_spec : FSpec := keysSpec 50
def slices_Sorted_string_spec : FSpec := seqSpec 50
def disk_Disk_names (k : Nat) (x0 : FL) : Option ((List (List UInt8)) × FL) := ((disk_Disk_is k x0).bind fun r1 => (bif (!r1.1) then some ([], r1.2) else ((seqF r1.2).bind fun z2 => some (z2, r1.2))))
def disk_Disk_names_spec : FSpec := ⟨[.disk], [.own .str, .backd], fun k x => disk_Disk_names k x⟩
def disk_Disk_names_parts : Parts := fun _ => none
def disk_Disk_names_env : List (Nat × FSpec) := [(23, disk_Disk_is_spec), (38, maps_Keys_map_string_disk_file_string_disk_file_spec), (37, slices_Sorted_string_spec)]
def disk_Disk_Crash_p3 : Nat → (List Int) → Int → Int → Unit → (List (List UInt8)) → FL → Option ((Unit × FL))
  | 0, _, _, _, _, _, _ => none
  | k + 1, v0, v1, v2, v3, v4, v5 => (bif (decide (v2 < v1)) then (bif (decide (0 ≤ v2) && decide (v2 < (v4).length)) then ((v4[Int.toNat v2]?).bind fun w2 => ((mfind (kt := .str) w2 v5).bind fun w3 => (bif (decide (v2 < ((v0).length : Int))) then ((at? v0 v2).bind fun e4 => (bif (decide ((0 : Int) ≤ (IntKind.wrap .i64 (w3.2 + (intMax 0 (intMin e4 (IntKind.wrap .i64 (((w3.1).length : Int) - w3.2))))))) && decide ((IntKind.wrap .i64 (w3.2 + (intMax 0 (intMin e4 (IntKind.wrap .i64 (((w3.1).length : Int) - w3.2)))))) ≤ ((w3.1).length : Int))) then ((slices_Clone_byte_byte k (cut w3.1 0 (IntKind.wrap .i64 (w3.2 + (intMax 0 (intMin e4 (IntKind.wrap .i64 (((w3.1).length : Int) - w3.2)))))))).bind fun r5 => disk_Disk_Crash_p3 k v0 v1 (IntKind.wrap .i64 (v2 + 1)) () v4 (mset (kt := .str) w2 (r5, ((r5).length : Int)) v5)) else none)) else (bif (decide ((0 : Int) ≤ (IntKind.wrap .i64 (w3.2 + 0))) && decide ((IntKind.wrap .i64 (w3.2 + 0)) ≤ ((w3.1).length : Int))) then ((slices_Clone_byte_byte k (cut w3.1 0 (IntKind.wrap .i64 (w3.2 + 0)))).bind fun r6 => disk_Disk_Crash_p3 k v0 v1 (IntKind.wrap .i64 (v2 + 1)) () v4 (mset (kt := .str) w2 (r6, ((r6).length : Int)) v5)) else none)))) else none) else some ((), v5))
def disk_Disk_Crash_u3 : Part := ⟨⟨[(0, .ptr 2000000 0), (9, .sref 500000)], [.val 1 (.slice (.int .i64)), .val 10 (.int .i64), .val 11 (.int .i64), .cells 2000000 [.stat (.mref 1000000)], .arr 500000 .str, .pm 1000000]⟩, [(.exit 0, ⟨[(0, .ptr 2000000 0)], [.cells 2000000 [.stat (.mref 1000000)], .pm 1000000]⟩)], fun k x => disk_Disk_Crash_p3 k x.1 x.2.1 x.2.2.1 x.2.2.2.1 x.2.2.2.2.1 x.2.2.2.2.2⟩
def disk_Disk_Crash (k : Nat) (x0 : FL) (x1 : List Int) : Option FL := ((disk_Disk_names k x0).bind fun r1 => ((disk_Disk_Crash_p3 k x1 ((r1.1).length : Int) 0 () r1.1 r1.2).bind fun o7 => some o7.2))
def disk_Disk_Crash_spec : FSpec := ⟨[.disk, .imm (.slice (.int .i64))], [.backd], fun k x => disk_Disk_Crash k x.1 x.2⟩
def disk_Disk_Crash_parts : Parts := fun n => cond (Nat.beq n 3) (some disk_Disk_Crash_u3) (none)
def disk_Disk_Crash_env : List (Nat × FSpec) := [(27, disk_Disk_names_spec), (26, slices_Clone_byte_byte_spec)]
def law05_awake (k : Nat) : Option Bool := ((disk_New k ).bind fun r1 => (bif !([97, 98]).isEmpty then ((disk_Disk_Append k r1 [97] [97, 98]).bind fun r2 => (bif (r2.1 != 0) then some false else ((disk_Disk_Sync k r2.2 [97]).bind fun r3 => (bif !([99, 100]).isEmpty then ((disk_Disk_Append k r3.2 [97] [99, 100]).bind fun r4 => ((disk_Disk_Crash k r4.2 [1]).bind fun r5 => ((disk_Disk_Read k r5 [97]).bind fun r6 => (bif r6.2.1 then some ((toBytes r6.1) == [97, 98, 99]) else some false)))) else none)))) else none))
def law05_awake_spec : FSpec := ⟨[], [.imm .bool], fun k x => law05_awake k⟩
def law05_awake_parts : Parts := fun _ => none
def law05_awake_env : List (Nat × FSpec) := [(7, disk_New_spec), (8, disk_Disk_Append_spec), (15, disk_Disk_Sync_spec), (14, disk_Disk_Crash_spec), (10, disk_Disk_Read_spec)]
end Go.Proofs.YtababmeocedhiaaDoor.gg
