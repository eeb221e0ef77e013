/- What the functions compute: printed by a program of our own. -/
import Derived.Test.YthdkecdbodenkaaGreatDoorK6
import Derived.Test.YthdkecdbodenkaaGreatDoorK5
import Derived.Test.YthdkecdbodenkaaGreatDoorLaidI
import Derived.Test.YthdkecdbodenkaaGreatDoorItoaI
import Derived.Test.YthdkecdbodenkaaGreatDoorTrimI
import Derived.Test.YthdkecdbodenkaaGreatDoorKeysI
open Go Go.GG Go.Proofs
set_option linter.unusedVariables false
namespace Go.Proofs.YthdkecdbodenkaaGreatDoor.gg
def tab_gudgeon_crc_known : List Int := [0, 498536548, 997073096, 651767980, 1994146192, 1802195444, 1303535960, 1342533948, 3988292384, 4027552580, 3604390888, 3412177804, 2607071920, 2262029012, 2685067896, 3183342108]
instance tabs : Tabs := ⟨tabsOf [(0, .u32, tab_gudgeon_crc_known), (3, .u64, Lib.pow10Tab)]⟩
def tab : Tab := [(3, ⟨.int .i64, 1, 8, [.int .i64 0], some (.int .i64), false⟩),
  (4, ⟨.bool, 1, 1, [.bool false], some .bool, false⟩),
  (5, ⟨.int .u8, 1, 1, [.int .u8 0], some (.int .u8), false⟩),
  (9, ⟨.str, 1, 16, [.string ⟨#[]⟩], some .str, false⟩),
  (22, ⟨.slice 5, 1, 24, [.slice none 0 0], some (.slice (.int .u8)), false⟩),
  (24, ⟨.int .u64, 1, 8, [.int .u64 0], some (.int .u64), false⟩),
  (26, ⟨.struct [(24, 0), (3, 1), (24, 2)], 3, 24, [.int .u64 0, .int .i64 0, .int .u64 0], some (.pair (.int .u64) (.pair (.int .i64) (.int .u64))), true⟩),
  (27, ⟨.int .i64, 1, 8, [.int .i64 0], some (.int .i64), false⟩),
  (40, ⟨.ptr 88, 1, 8, [.pointer none], none, false⟩),
  (43, ⟨.slice 3, 1, 24, [.slice none 0 0], some (.slice (.int .i64)), false⟩),
  (61, ⟨.ptr 107, 1, 8, [.pointer none], none, false⟩),
  (67, ⟨.struct [(5, 0), (22, 1)], 2, 32, [.int .u8 0, .slice none 0 0], some (.pair (.int .u8) (.slice (.int .u8))), false⟩),
  (72, ⟨.struct [(22, 0), (3, 1), (27, 2)], 3, 40, [.slice none 0 0, .int .i64 0, .int .i64 0], some (.pair (.slice (.int .u8)) (.pair (.int .i64) (.int .i64))), false⟩),
  (82, ⟨.ptr 85, 1, 8, [.pointer none], none, false⟩),
  (85, ⟨.struct [(22, 0), (3, 1)], 2, 32, [.slice none 0 0, .int .i64 0], some (.pair (.slice (.int .u8)) (.int .i64)), false⟩),
  (86, ⟨.map 9 82, 1, 8, [.map none], none, false⟩),
  (88, ⟨.struct [(86, 0)], 1, 8, [.map none], none, false⟩),
  (89, ⟨.slice 9, 1, 24, [.slice none 0 0], some (.slice .str), false⟩),
  (107, ⟨.struct [(22, 0), (3, 1), (27, 2)], 3, 40, [.slice none 0 0, .int .i64 0, .int .i64 0], some (.pair (.slice (.int .u8)) (.pair (.int .i64) (.int .i64))), false⟩),
  (118, ⟨.int .u64, 1, 8, [.int .u64 0], some (.int .u64), false⟩),
  (130, ⟨.int .u32, 1, 4, [.int .u32 0], some (.int .u32), false⟩),
  (149, ⟨.array 16 130, 16, 64, [.int .u32 0, .int .u32 0, .int .u32 0, .int .u32 0, .int .u32 0, .int .u32 0, .int .u32 0, .int .u32 0, .int .u32 0, .int .u32 0, .int .u32 0, .int .u32 0, .int .u32 0, .int .u32 0, .int .u32 0, .int .u32 0], some (.pair (.int .u32) (.pair (.int .u32) (.pair (.int .u32) (.pair (.int .u32) (.pair (.int .u32) (.pair (.int .u32) (.pair (.int .u32) (.pair (.int .u32) (.pair (.int .u32) (.pair (.int .u32) (.pair (.int .u32) (.pair (.int .u32) (.pair (.int .u32) (.pair (.int .u32) (.pair (.int .u32) (.int .u32)))))))))))))))), false⟩)]
def disk_New (k : Nat) : Option FL := some ([] : FL)
def disk_New_spec : FSpec := ⟨[], [.freshd], fun k x => disk_New k⟩
def disk_New_parts : Parts := fun _ => none
def disk_New_env : List (Nat × FSpec) := []
def strconv_Itoa_spec : FSpec := itoaSpec
def disk_Disk_is (k : Nat) (x0 : FL) : Option (Bool × FL) := some (true, x0)
def disk_Disk_is_spec : FSpec := ⟨[.disk], [.imm .bool, .backd], fun k x => disk_Disk_is k x⟩
def disk_Disk_is_parts : Parts := fun _ => none
def disk_Disk_is_env : List (Nat × FSpec) := []
def disk_Disk_find (k : Nat) (x0 : FL) (x1 : List UInt8) : Option ((FL × Option (List UInt8)) × Int) := ((disk_Disk_is k x0).bind fun r1 => (bif (!r1.1) then some ((r1.2, none), 1) else ((mfind (kt := .str) x1 r1.2).elim (some ((r1.2, none), 4)) fun x2 => some (((mset (kt := .str) x1 (x2.1, x2.2) r1.2), some x1), 0))))
def disk_Disk_find_spec : FSpec := ⟨[.disk, .imm .str], [.find, .imm (.int .i64)], fun k x => disk_Disk_find k x.1 x.2⟩
def disk_Disk_find_parts : Parts := fun _ => none
def disk_Disk_find_env : List (Nat × FSpec) := [(66, disk_Disk_is_spec)]
def disk_Disk_Sync (k : Nat) (x0 : FL) (x1 : List UInt8) : Option (Int × FL) := ((disk_Disk_find k x0 x1).bind fun r1 => ((r1.1.2).elim ((bif (r1.2 == 0) then none else some (r1.2, r1.1.1))) fun k2 => ((mfind (kt := .str) k2 r1.1.1).bind fun x3 => (bif (r1.2 == 0) then some (r1.2, (mset (kt := .str) k2 (x3.1, ((x3.1).length : Int)) r1.1.1)) else some (r1.2, (mset (kt := .str) k2 (x3.1, x3.2) r1.1.1))))))
def disk_Disk_Sync_spec : FSpec := ⟨[.disk, .imm .str], [.imm (.int .i64), .backd], fun k x => disk_Disk_Sync k x.1 x.2⟩
def disk_Disk_Sync_parts : Parts := fun _ => none
def disk_Disk_Sync_env : List (Nat × FSpec) := [(70, disk_Disk_find_spec)]
def hard_name (k : Nat) (x0 : FL) (x1 : Int) : Option ((List UInt8) × Bool × FL) := ((itoaF x1).bind fun r1 => (bif Nat.ble (([104, 97, 114, 100, 45] : List UInt8).length + r1.length) 9223372036854775807 then ((disk_Disk_Sync k x0 []).bind fun r2 => (bif (r2.1 != 1) then (bif (decide (x1 ≥ 0)) then some (([104, 97, 114, 100, 45] ++ r1), (decide (x1 ≤ 999)), r2.2) else some (([104, 97, 114, 100, 45] ++ r1), false, r2.2)) else some (([104, 97, 114, 100, 45] ++ r1), false, r2.2))) else none))
def hard_name_spec : FSpec := ⟨[.disk, .imm (.int .i64)], [.imm .str, .imm .bool, .backd], fun k x => hard_name k x.1 x.2⟩
def hard_name_parts : Parts := fun _ => none
def hard_name_env : List (Nat × FSpec) := [(69, strconv_Itoa_spec), (42, disk_Disk_Sync_spec)]
def wire_own (k : Nat) (x0 : List Int) : Option (List Int) := (bif (true && decide ((0 : Int) ≤ ((x0).length : Int)) && decide (((x0).length : Int) ≤ ((x0).length : Int))) then (bif (((x0).length : Int) == ((x0).length : Int)) then some (cut x0 0 ((x0).length : Int)) else none) else none)
def wire_own_spec : FSpec := ⟨[.imm (.slice (.int .u8))], [.full (.int .u8)], fun k x => wire_own k x⟩
def wire_own_parts : Parts := fun _ => none
def wire_own_env : List (Nat × FSpec) := []
def wire_Uvarint_p6 : Nat → Int → (List Int) → Option ((Int × List Int))
  | 0, _, _ => none
  | k + 1, v0, v1 => (bif (decide (v0 ≥ 128)) then (bif room ((v1 ++ [(bitv .or .u8 (IntKind.wrap .u8 v0) 128)])).length 1 then wire_Uvarint_p6 k (shrv .u64 v0 7) (v1 ++ [(bitv .or .u8 (IntKind.wrap .u8 v0) 128)]) else none) else some (v0, v1))
def wire_Uvarint_u6 : Part := ⟨⟨[(0, .sref 500001)], [.val 1 (.int .u64), .app 500001 (.int .u8)]⟩, [(.exit 0, ⟨[(0, .sref 500001)], [.val 1 (.int .u64), .app 500001 (.int .u8)]⟩)], fun k x => wire_Uvarint_p6 k x.1 x.2⟩
def wire_Uvarint (k : Nat) (x0 : List Int) (x1 : Int) : Option (List Int) := ((wire_own k x0).bind fun r1 => ((wire_Uvarint_p6 k x1 r1).bind fun o2 => (bif room ((o2.2 ++ [(IntKind.wrap .u8 o2.1)])).length 1 then some (o2.2 ++ [(IntKind.wrap .u8 o2.1)]) else none)))
def wire_Uvarint_spec : FSpec := ⟨[.imm (.slice (.int .u8)), .imm (.int .u64)], [.own (.int .u8)], fun k x => wire_Uvarint k x.1 x.2⟩
def wire_Uvarint_parts : Parts := fun n => cond (Nat.beq n 6) (some wire_Uvarint_u6) (none)
def wire_Uvarint_env : List (Nat × FSpec) := [(64, wire_own_spec)]
def crc_Step_p8 : Nat → Int → (List Int) → Int → Int → Option Int
  | 0, _, _, _, _ => none
  | k + 1, v0, v1, v2, v3 => (bif (decide (v3 < v2)) then ((at? v1 v3).bind fun e1 => (bif (decide (0 ≤ (bitv .and .u32 (bitv .xor .u32 v0 (IntKind.wrap .u32 e1)) 15)) && decide ((bitv .and .u32 (bitv .xor .u32 v0 (IntKind.wrap .u32 e1)) 15) < ((16 : Nat) : Int))) then ((at? tab_gudgeon_crc_known (bitv .and .u32 (bitv .xor .u32 v0 (IntKind.wrap .u32 e1)) 15)).bind fun e2 => (bif (decide (0 ≤ (bitv .and .u32 (bitv .xor .u32 e2 (shrv .u32 (bitv .xor .u32 v0 (IntKind.wrap .u32 e1)) 4)) 15)) && decide ((bitv .and .u32 (bitv .xor .u32 e2 (shrv .u32 (bitv .xor .u32 v0 (IntKind.wrap .u32 e1)) 4)) 15) < ((16 : Nat) : Int))) then ((at? tab_gudgeon_crc_known (bitv .and .u32 (bitv .xor .u32 e2 (shrv .u32 (bitv .xor .u32 v0 (IntKind.wrap .u32 e1)) 4)) 15)).bind fun e3 => crc_Step_p8 k (bitv .xor .u32 e3 (shrv .u32 (bitv .xor .u32 e2 (shrv .u32 (bitv .xor .u32 v0 (IntKind.wrap .u32 e1)) 4)) 4)) v1 v2 (IntKind.wrap .i64 (v3 + 1))) else none)) else none)) else some v0)
def crc_Step_u8 : Part := ⟨⟨[], [.val 5 (.int .u32), .val 10 (.slice (.int .u8)), .val 11 (.int .i64), .val 12 (.int .i64)]⟩, [(.exit 0, ⟨[], [.val 5 (.int .u32)]⟩)], fun k x => crc_Step_p8 k x.1 x.2.1 x.2.2.1 x.2.2.2⟩
def crc_Step (k : Nat) (x0 : Int) (x1 : List Int) : Option Int := ((crc_Step_p8 k (bitv .xor .u32 4294967295 x0) x1 ((x1).length : Int) 0).bind fun o4 => some (bitv .xor .u32 4294967295 o4))
def crc_Step_spec : FSpec := ⟨[.imm (.int .u32), .imm (.slice (.int .u8))], [.imm (.int .u32)], fun k x => crc_Step k x.1 x.2⟩
def crc_Step_parts : Parts := fun n => cond (Nat.beq n 8) (some crc_Step_u8) (none)
def crc_Step_env : List (Nat × FSpec) := []
def crc_Of (k : Nat) (x0 : List Int) : Option Int := ((crc_Step k 0 x0).bind fun r1 => some r1)
def crc_Of_spec : FSpec := ⟨[.imm (.slice (.int .u8))], [.imm (.int .u32)], fun k x => crc_Of k x⟩
def crc_Of_parts : Parts := fun _ => none
def crc_Of_env : List (Nat × FSpec) := [(87, crc_Step_spec)]
def crc_Seal (k : Nat) (x0 : List Int) : Option (List Int) := ((crc_Of k x0).bind fun r1 => (bif room (([(IntKind.wrap .u8 (shrv .u32 r1 24)), (IntKind.wrap .u8 (shrv .u32 r1 16)), (IntKind.wrap .u8 (shrv .u32 r1 8)), (IntKind.wrap .u8 r1)] ++ x0)).length 1 then some ([(IntKind.wrap .u8 (shrv .u32 r1 24)), (IntKind.wrap .u8 (shrv .u32 r1 16)), (IntKind.wrap .u8 (shrv .u32 r1 8)), (IntKind.wrap .u8 r1)] ++ x0) else none))
def crc_Seal_spec : FSpec := ⟨[.imm (.slice (.int .u8))], [.own (.int .u8)], fun k x => crc_Seal k x⟩
def crc_Seal_parts : Parts := fun _ => none
def crc_Seal_env : List (Nat × FSpec) := [(75, crc_Of_spec)]
def frame_Put (k : Nat) (x0 : Int) (x1 : List Int) : Option ((List Int) × Int) := (bif (decide (((x1).length : Int) > 1048571)) then some ([], 3) else (bif room (([x0] ++ x1)).length 1 then ((crc_Seal k ([x0] ++ x1)).bind fun r1 => ((wire_Uvarint k [] (IntKind.wrap .u64 ((r1).length : Int))).bind fun r2 => (bif room ((r2 ++ r1)).length 1 then some ((r2 ++ r1), 0) else none))) else none))
def frame_Put_spec : FSpec := ⟨[.imm (.int .u8), .imm (.slice (.int .u8))], [.own (.int .u8), .imm (.int .i64)], fun k x => frame_Put k x.1 x.2⟩
def frame_Put_parts : Parts := fun _ => none
def frame_Put_env : List (Nat × FSpec) := [(63, crc_Seal_spec), (33, wire_Uvarint_spec)]
def hard_Encode (k : Nat) (x0 : Int × Int × Int) : Option ((List Int) × Int) := (bif (decide (x0.2.1 < 0)) then some ([], 1) else (bif (decide (x0.2.1 > 7)) then some ([], 1) else ((wire_Uvarint k [] x0.1).bind fun r1 => ((wire_Uvarint k r1 (IntKind.wrap .u64 x0.2.1)).bind fun r2 => ((wire_Uvarint k r2 x0.2.2).bind fun r3 => ((frame_Put k 2 r3).bind fun r4 => some r4))))))
def hard_Encode_spec : FSpec := ⟨[.agg (.pair (.int .u64) (.pair (.int .i64) (.int .u64)))], [.own (.int .u8), .imm (.int .i64)], fun k x => hard_Encode k x⟩
def hard_Encode_parts : Parts := fun _ => none
def hard_Encode_env : List (Nat × FSpec) := [(33, wire_Uvarint_spec), (32, frame_Put_spec)]
def slices_Clone_byte_byte_nil (k : Nat) (x0 : Unit) : Option (List Int) := some []
def slices_Clone_byte_byte_nil_spec : FSpec := ⟨[.nils], [.own (.int .u8)], fun k x => slices_Clone_byte_byte_nil k x⟩
def slices_Clone_byte_byte_nil_parts : Parts := fun _ => none
def slices_Clone_byte_byte_nil_env : List (Nat × FSpec) := []
def slices_Clone_byte_byte (k : Nat) (x0 : List Int) : Option (List Int) := (bif room (([] ++ x0)).length 1 then some ([] ++ x0) else none)
def slices_Clone_byte_byte_spec : FSpec := ⟨[.imm (.slice (.int .u8))], [.own (.int .u8)], fun k x => slices_Clone_byte_byte k x⟩
def slices_Clone_byte_byte_sspec : FSpec := ⟨[.nnil (.int .u8)], [.own (.int .u8)], fun k x => slices_Clone_byte_byte k x⟩
def slices_Clone_byte_byte_parts : Parts := fun _ => none
def slices_Clone_byte_byte_env : List (Nat × FSpec) := []
def disk_Disk_Cut (k : Nat) (x0 : FL) (x1 : List UInt8) (x2 : Int) : Option (Int × FL) := ((disk_Disk_find k x0 x1).bind fun r1 => ((r1.1.2).elim ((bif (r1.2 != 0) then some (r1.2, r1.1.1) else (bif (decide (x2 < 0)) then some (1, r1.1.1) else none))) fun k2 => ((mfind (kt := .str) k2 r1.1.1).bind fun x3 => (bif (r1.2 != 0) then some (r1.2, (mset (kt := .str) k2 (x3.1, x3.2) r1.1.1)) else (bif (decide (x2 < 0)) then some (1, (mset (kt := .str) k2 (x3.1, x3.2) r1.1.1)) else (bif (decide (x2 > ((x3.1).length : Int))) then some (1, (mset (kt := .str) k2 (x3.1, x3.2) r1.1.1)) else (bif (decide ((0 : Int) ≤ x2) && decide (x2 ≤ ((x3.1).length : Int))) then ((slices_Clone_byte_byte k (cut x3.1 0 x2)).bind fun r4 => some (0, (mset (kt := .str) k2 (r4, (intMin x3.2 x2)) r1.1.1))) else none)))))))
def disk_Disk_Cut_spec : FSpec := ⟨[.disk, .imm .str, .imm (.int .i64)], [.imm (.int .i64), .backd], fun k x => disk_Disk_Cut k x.1 x.2.1 x.2.2⟩
def disk_Disk_Cut_parts : Parts := fun _ => none
def disk_Disk_Cut_env : List (Nat × FSpec) := [(70, disk_Disk_find_spec), (37, slices_Clone_byte_byte_spec)]
def strings_Trim_spec : FSpec := trimSpec
def disk_may (k : Nat) (x0 : List UInt8) : Option Bool := (bif (decide (((x0).length : Int) ≥ 1)) then (bif (decide (((x0).length : Int) ≤ 32)) then ((trimF x0 [97, 98, 99, 100, 101, 102, 103, 104, 105, 106, 107, 108, 109, 110, 111, 112, 113, 114, 115, 116, 117, 118, 119, 120, 121, 122, 48, 49, 50, 51, 52, 53, 54, 55, 56, 57, 46, 45]).bind fun r1 => some (r1 == [])) else some false) else some false)
def disk_may_spec : FSpec := ⟨[.imm .str], [.imm .bool], fun k x => disk_may k x⟩
def disk_may_parts : Parts := fun _ => none
def disk_may_env : List (Nat × FSpec) := [(65, strings_Trim_spec)]
def disk_Disk_Append (k : Nat) (x0 : FL) (x1 : List UInt8) (x2 : List Int) : Option (Int × FL) := ((disk_Disk_is k x0).bind fun r1 => (bif (!r1.1) then some (1, r1.2) else ((disk_may k x1).bind fun r2 => (bif (!r2) then some (1, r1.2) else ((mfind (kt := .str) x1 r1.2).elim ((bif (decide (((r1.2).length : Int) ≥ 64)) then some (2, r1.2) else (bif (decide (((x2).length : Int) > 65536)) then some (2, r1.2) else (bif room (x2).length 1 then some (0, (mset (kt := .str) x1 (x2, 0) r1.2)) else none)))) fun x3 => (bif (decide (((x2).length : Int) > (IntKind.wrap .i64 (65536 - ((x3.1).length : Int))))) then some (2, (mset (kt := .str) x1 (x3.1, x3.2) r1.2)) else (bif room ((x3.1 ++ x2)).length 1 then (bif ((x1 == x1) && true) then some (0, (mset (kt := .str) x1 ((x3.1 ++ x2), x3.2) r1.2)) else none) else none)))))))
def disk_Disk_Append_spec : FSpec := ⟨[.disk, .imm .str, .imm (.slice (.int .u8))], [.imm (.int .i64), .backd], fun k x => disk_Disk_Append k x.1 x.2.1 x.2.2⟩
def disk_Disk_Append_parts : Parts := fun _ => none
def disk_Disk_Append_env : List (Nat × FSpec) := [(66, disk_Disk_is_spec), (36, disk_may_spec)]
def disk_Disk_Rename (k : Nat) (x0 : FL) (x1 : List UInt8) (x2 : List UInt8) : Option (Int × FL) := ((disk_Disk_find k x0 x1).bind fun r1 => ((r1.1.2).elim ((bif (r1.2 != 0) then some (r1.2, r1.1.1) else ((disk_may k x2).bind fun r4 => (bif (!r4) then some (1, r1.1.1) else none)))) fun k2 => ((mfind (kt := .str) k2 r1.1.1).bind fun x3 => (bif (r1.2 != 0) then some (r1.2, (mset (kt := .str) k2 (x3.1, x3.2) r1.1.1)) else ((disk_may k x2).bind fun r5 => (bif (!r5) then some (1, (mset (kt := .str) k2 (x3.1, x3.2) r1.1.1)) else (bif (x1 == k2) then some (0, (mset (kt := .str) x2 (x3.1, x3.2) (mdel (kt := .str) x1 r1.1.1))) else none)))))))
def disk_Disk_Rename_spec : FSpec := ⟨[.disk, .imm .str, .imm .str], [.imm (.int .i64), .backd], fun k x => disk_Disk_Rename k x.1 x.2.1 x.2.2⟩
def disk_Disk_Rename_parts : Parts := fun _ => none
def disk_Disk_Rename_env : List (Nat × FSpec) := [(70, disk_Disk_find_spec), (36, disk_may_spec)]
def hard_Save (k : Nat) (x0 : FL) (x1 : Int) (x2 : Int × Int × Int) : Option (Int × FL) := ((hard_name k x0 x1).bind fun r1 => ((hard_Encode k x2).bind fun r2 => (bif (!r1.2.1) then some (1, r1.2.2) else (bif (r2.2 != 0) then some (1, r1.2.2) else (bif Nat.ble (r1.1.length + ([46, 110, 101, 119] : List UInt8).length) 9223372036854775807 then ((disk_Disk_Cut k r1.2.2 (r1.1 ++ [46, 110, 101, 119]) 0).bind fun r3 => ((disk_Disk_Append k r3.2 (r1.1 ++ [46, 110, 101, 119]) r2.1).bind fun r4 => (bif (r4.1 != 0) then some (2, r4.2) else ((disk_Disk_Sync k r4.2 (r1.1 ++ [46, 110, 101, 119])).bind fun r5 => ((disk_Disk_Rename k r5.2 (r1.1 ++ [46, 110, 101, 119]) r1.1).bind fun r6 => some (0, r6.2)))))) else none)))))
def hard_Save_spec : FSpec := ⟨[.disk, .imm (.int .i64), .agg (.pair (.int .u64) (.pair (.int .i64) (.int .u64)))], [.imm (.int .i64), .backd], fun k x => hard_Save k x.1 x.2.1 x.2.2⟩
def hard_Save_parts : Parts := fun _ => none
def hard_Save_env : List (Nat × FSpec) := [(39, hard_name_spec), (9, hard_Encode_spec), (40, disk_Disk_Cut_spec), (41, disk_Disk_Append_spec), (42, disk_Disk_Sync_spec), (43, disk_Disk_Rename_spec)]
def maps_Keys_map_string_disk_file_string_disk_file_spec : FSpec := keysSpec 85
def slices_Sorted_string_spec : FSpec := seqSpec 85
def disk_Disk_names (k : Nat) (x0 : FL) : Option ((List (List UInt8)) × FL) := ((disk_Disk_is k x0).bind fun r1 => (bif (!r1.1) then some ([], r1.2) else ((seqF r1.2).bind fun z2 => some (z2, r1.2))))
def disk_Disk_names_spec : FSpec := ⟨[.disk], [.own .str, .backd], fun k x => disk_Disk_names k x⟩
def disk_Disk_names_parts : Parts := fun _ => none
def disk_Disk_names_env : List (Nat × FSpec) := [(66, disk_Disk_is_spec), (68, maps_Keys_map_string_disk_file_string_disk_file_spec), (67, slices_Sorted_string_spec)]
def disk_Disk_Crash_p3 : Nat → (List Int) → Int → Int → Unit → (List (List UInt8)) → FL → Option ((Unit × FL))
  | 0, _, _, _, _, _, _ => none
  | k + 1, v0, v1, v2, v3, v4, v5 => (bif (decide (v2 < v1)) then (bif (decide (0 ≤ v2) && decide (v2 < (v4).length)) then ((v4[Int.toNat v2]?).bind fun x2 => ((mfind (kt := .str) x2 v5).bind fun x3 => (bif (decide (v2 < ((v0).length : Int))) then ((at? v0 v2).bind fun e4 => (bif (decide ((0 : Int) ≤ (IntKind.wrap .i64 (x3.2 + (intMax 0 (intMin e4 (IntKind.wrap .i64 (((x3.1).length : Int) - x3.2))))))) && decide ((IntKind.wrap .i64 (x3.2 + (intMax 0 (intMin e4 (IntKind.wrap .i64 (((x3.1).length : Int) - x3.2)))))) ≤ ((x3.1).length : Int))) then ((slices_Clone_byte_byte k (cut x3.1 0 (IntKind.wrap .i64 (x3.2 + (intMax 0 (intMin e4 (IntKind.wrap .i64 (((x3.1).length : Int) - x3.2)))))))).bind fun r5 => disk_Disk_Crash_p3 k v0 v1 (IntKind.wrap .i64 (v2 + 1)) () v4 (mset (kt := .str) x2 (r5, ((r5).length : Int)) v5)) else none)) else (bif (decide ((0 : Int) ≤ (IntKind.wrap .i64 (x3.2 + 0))) && decide ((IntKind.wrap .i64 (x3.2 + 0)) ≤ ((x3.1).length : Int))) then ((slices_Clone_byte_byte k (cut x3.1 0 (IntKind.wrap .i64 (x3.2 + 0)))).bind fun r6 => disk_Disk_Crash_p3 k v0 v1 (IntKind.wrap .i64 (v2 + 1)) () v4 (mset (kt := .str) x2 (r6, ((r6).length : Int)) v5)) else none)))) else none) else some ((), v5))
def disk_Disk_Crash_u3 : Part := ⟨⟨[(0, .ptr 2000000 0), (9, .sref 500000)], [.val 1 (.slice (.int .i64)), .val 10 (.int .i64), .val 11 (.int .i64), .cells 2000000 [.stat (.mref 1000000)], .arr 500000 .str, .pm 1000000]⟩, [(.exit 0, ⟨[(0, .ptr 2000000 0)], [.cells 2000000 [.stat (.mref 1000000)], .pm 1000000]⟩)], fun k x => disk_Disk_Crash_p3 k x.1 x.2.1 x.2.2.1 x.2.2.2.1 x.2.2.2.2.1 x.2.2.2.2.2⟩
def disk_Disk_Crash (k : Nat) (x0 : FL) (x1 : List Int) : Option FL := ((disk_Disk_names k x0).bind fun r1 => ((disk_Disk_Crash_p3 k x1 ((r1.1).length : Int) 0 () r1.1 r1.2).bind fun o7 => some o7.2))
def disk_Disk_Crash_spec : FSpec := ⟨[.disk, .imm (.slice (.int .i64))], [.backd], fun k x => disk_Disk_Crash k x.1 x.2⟩
def disk_Disk_Crash_parts : Parts := fun n => cond (Nat.beq n 3) (some disk_Disk_Crash_u3) (none)
def disk_Disk_Crash_env : List (Nat × FSpec) := [(38, disk_Disk_names_spec), (37, slices_Clone_byte_byte_spec)]
def disk_Disk_Read (k : Nat) (x0 : FL) (x1 : List UInt8) : Option ((List Int) × Bool × FL) := ((disk_Disk_find k x0 x1).bind fun r1 => ((r1.1.2).elim ((bif (r1.2 != 0) then some ([], false, r1.1.1) else none)) fun k2 => ((mfind (kt := .str) k2 r1.1.1).bind fun x3 => (bif (r1.2 != 0) then some ([], false, (mset (kt := .str) k2 (x3.1, x3.2) r1.1.1)) else ((slices_Clone_byte_byte k x3.1).bind fun r4 => some (r4, true, (mset (kt := .str) k2 (x3.1, x3.2) r1.1.1)))))))
def disk_Disk_Read_spec : FSpec := ⟨[.disk, .imm .str], [.own (.int .u8), .imm .bool, .backd], fun k x => disk_Disk_Read k x.1 x.2⟩
def disk_Disk_Read_parts : Parts := fun _ => none
def disk_Disk_Read_env : List (Nat × FSpec) := [(70, disk_Disk_find_spec), (37, slices_Clone_byte_byte_spec)]
def frame_size_p6 : Nat → (List Int) → Int → Int → (List Int) → Int → Int → Option (((List Int) × Int × Int) ⊕ (Int × Int × Int))
  | 0, _, _, _, _, _, _ => none
  | k + 1, v0, v1, v2, v3, v4, v5 => (bif (decide (v5 < v4)) then ((at? v3 v5).bind fun e1 => (bif (v5 == 3) then some (.inr (0, 0, 5)) else (bif (decide (v5 > 0)) then (bif (e1 == 0) then some (.inr (0, 0, 5)) else (bif decide (0 ≤ (IntKind.wrap .i64 (7 * v5))) then (bif (decide (e1 < 128)) then some (.inl (v0, (bitv .or .i64 v1 (shlv .i64 (IntKind.wrap .i64 (bitv .and .u8 e1 127)) (IntKind.wrap .i64 (7 * v5)))), (IntKind.wrap .i64 (v5 + 1)))) else frame_size_p6 k v0 (bitv .or .i64 v1 (shlv .i64 (IntKind.wrap .i64 (bitv .and .u8 e1 127)) (IntKind.wrap .i64 (7 * v5)))) v2 v3 v4 (IntKind.wrap .i64 (v5 + 1))) else none)) else (bif decide (0 ≤ (IntKind.wrap .i64 (7 * v5))) then (bif (decide (e1 < 128)) then some (.inl (v0, (bitv .or .i64 v1 (shlv .i64 (IntKind.wrap .i64 (bitv .and .u8 e1 127)) (IntKind.wrap .i64 (7 * v5)))), (IntKind.wrap .i64 (v5 + 1)))) else frame_size_p6 k v0 (bitv .or .i64 v1 (shlv .i64 (IntKind.wrap .i64 (bitv .and .u8 e1 127)) (IntKind.wrap .i64 (7 * v5)))) v2 v3 v4 (IntKind.wrap .i64 (v5 + 1))) else none)))) else some (.inl (v0, v1, v2)))
def frame_size_u6 : Part := ⟨⟨[], [.val 0 (.slice (.int .u8)), .val 2 (.int .i64), .val 3 (.int .i64), .val 7 (.slice (.int .u8)), .val 8 (.int .i64), .val 9 (.int .i64)]⟩, [(.exit 0, ⟨[], [.val 0 (.slice (.int .u8)), .val 2 (.int .i64), .val 3 (.int .i64)]⟩), (.ret, ⟨[], [.val 2 (.int .i64), .val 3 (.int .i64), .val 4 (.int .i64)]⟩)], fun k x => frame_size_p6 k x.1 x.2.1 x.2.2.1 x.2.2.2.1 x.2.2.2.2.1 x.2.2.2.2.2⟩
def frame_size (k : Nat) (x0 : List Int) : Option (Int × Int × Int) := ((frame_size_p6 k x0 0 0 x0 ((x0).length : Int) 0).bind fun o2 => Sum.elim (fun a3 => (bif (a3.2.2 == 0) then (bif (decide (((a3.1).length : Int) < 3)) then some (0, 0, 12) else (bif (a3.2.2 == 0) then some (0, 0, 5) else (bif (decide (a3.2.1 < 5)) then some (0, 0, 5) else (bif (decide (a3.2.1 > 1048576)) then some (0, 0, 5) else some (a3.2.1, a3.2.2, 0))))) else (bif (a3.2.2 == 0) then some (0, 0, 5) else (bif (decide (a3.2.1 < 5)) then some (0, 0, 5) else (bif (decide (a3.2.1 > 1048576)) then some (0, 0, 5) else some (a3.2.1, a3.2.2, 0)))))) (fun b4 => some b4) o2)
def frame_size_spec : FSpec := ⟨[.imm (.slice (.int .u8))], [.imm (.int .i64), .imm (.int .i64), .imm (.int .i64)], fun k x => frame_size k x⟩
def frame_size_parts : Parts := fun n => cond (Nat.beq n 6) (some frame_size_u6) (none)
def frame_size_env : List (Nat × FSpec) := []
def crc_Open (k : Nat) (x0 : List Int) : Option ((List Int) × Bool) := (bif (decide (((x0).length : Int) < 4)) then some ([], false) else (bif (true && decide ((4 : Int) ≤ ((x0).length : Int)) && decide (((x0).length : Int) ≤ ((x0).length : Int))) then ((crc_Seal k (cut x0 4 ((x0).length : Int))).bind fun r1 => (bif (!((toBytes r1) == (toBytes x0))) then some ([], false) else (bif (true && decide ((4 : Int) ≤ ((x0).length : Int)) && decide (((x0).length : Int) ≤ ((x0).length : Int))) then ((slices_Clone_byte_byte k (cut x0 4 ((x0).length : Int))).bind fun r2 => some (r2, true)) else none))) else none))
def crc_Open_spec : FSpec := ⟨[.imm (.slice (.int .u8))], [.own (.int .u8), .imm .bool], fun k x => crc_Open k x⟩
def crc_Open_parts : Parts := fun _ => none
def crc_Open_env : List (Nat × FSpec) := [(63, crc_Seal_spec), (37, slices_Clone_byte_byte_spec)]
def frame_Next_p22 (k : Nat) (v0 : Int) (v1 : Int) (v2 : List Int) (v3 : Bool) : Option ((Int × Int × List Int) ⊕ (Int × Int × Int)) := (bif (!v3) then some (.inr (0, 0, 5)) else some (.inl (v0, v1, v2)))
def frame_Next_u22 : Part := ⟨⟨[], [.val 4 (.int .i64), .val 6 (.int .i64), .val 7 (.slice (.int .u8)), .val 8 .bool]⟩, [(.normal, ⟨[], [.val 4 (.int .i64), .val 6 (.int .i64), .val 7 (.slice (.int .u8))]⟩), (.ret, ⟨[(3, .nils)], [.val 2 (.int .u8), .val 4 (.int .i64), .val 5 (.int .i64)]⟩)], fun k x => frame_Next_p22 k x.1 x.2.1 x.2.2.1 x.2.2.2⟩
def frame_Next (k : Nat) (x0 : List Int) : Option (Int × (List Int) × Int × Int) := ((frame_size k x0).bind fun r1 => (bif (r1.2.2 != 0) then some (0, [], 0, r1.2.2) else (bif (decide ((IntKind.wrap .i64 (((x0).length : Int) - r1.2.1)) < r1.1)) then some (0, [], 0, 12) else (bif (decide ((0 : Int) ≤ r1.2.1) && decide (r1.2.1 ≤ (IntKind.wrap .i64 (r1.2.1 + r1.1))) && decide ((IntKind.wrap .i64 (r1.2.1 + r1.1)) ≤ ((x0).length : Int))) then ((crc_Open k (cut x0 r1.2.1 (IntKind.wrap .i64 (r1.2.1 + r1.1)))).bind fun r2 => ((frame_Next_p22 k r1.2.1 r1.1 r2.1 r2.2).bind fun o3 => Sum.elim (fun a4 => ((at? a4.2.2 0).bind fun e6 => (bif (true && decide ((1 : Int) ≤ ((a4.2.2).length : Int)) && decide (((a4.2.2).length : Int) ≤ ((a4.2.2).length : Int))) then (bif (((a4.2.2).length : Int) == ((a4.2.2).length : Int)) then some (e6, (cut a4.2.2 1 ((a4.2.2).length : Int)), (IntKind.wrap .i64 (a4.1 + a4.2.1)), 0) else none) else none))) (fun b5 => some (b5.1, [], b5.2.1, b5.2.2)) o3)) else none))))
def frame_Next_spec : FSpec := ⟨[.imm (.slice (.int .u8))], [.imm (.int .u8), .imm (.slice (.int .u8)), .imm (.int .i64), .imm (.int .i64)], fun k x => frame_Next k x⟩
def frame_Next_parts : Parts := fun n => cond (Nat.beq n 22) (some frame_Next_u22) (none)
def frame_Next_env : List (Nat × FSpec) := [(50, frame_size_spec), (51, crc_Open_spec)]
def wire_Read (k : Nat) (x0 : List Int) : Option ((List Int) × Int × Int) := ((slices_Clone_byte_byte k x0).bind fun r1 => some (r1, (0, 0)))
def wire_Read_spec : FSpec := ⟨[.imm (.slice (.int .u8))], [.fresh (.pair (.slice (.int .u8)) (.pair (.int .i64) (.int .i64)))], fun k x => wire_Read k x⟩
def wire_Read_parts : Parts := fun _ => none
def wire_Read_env : List (Nat × FSpec) := [(37, slices_Clone_byte_byte_spec)]
def wire_Reader_fine (k : Nat) (x0 : (List Int) × Int × Int) : Option (Bool × (List Int) × Int × Int) := some ((x0.2.2 == 0), x0)
def wire_Reader_fine_spec : FSpec := ⟨[.lent (.pair (.slice (.int .u8)) (.pair (.int .i64) (.int .i64)))], [.imm .bool, .back (.pair (.slice (.int .u8)) (.pair (.int .i64) (.int .i64)))], fun k x => wire_Reader_fine k x⟩
def wire_Reader_fine_parts : Parts := fun _ => none
def wire_Reader_fine_env : List (Nat × FSpec) := []
def wire_Reader_peek_p8 : Nat → Int → (List Int) → Int → Int → ((List Int) × Int × Int) → Option (((List Int) × Int × Int) ⊕ (Int × Int × (List Int) × Int × Int))
  | 0, _, _, _, _, _ => none
  | k + 1, v0, v1, v2, v3, v4 => (bif (decide (v3 < v2)) then ((at? v1 v3).bind fun e1 => (bif (v3 == 9) then (bif (decide (e1 > 1)) then some (.inl v4) else (bif (e1 == 0) then (bif (decide (v3 > 0)) then some (.inl v4) else (bif decide (0 ≤ (IntKind.wrap .i64 (7 * v3))) then (bif (decide (e1 < 128)) then some (.inr ((bitv .or .u64 v0 (shlv .u64 (IntKind.wrap .u64 (bitv .and .u8 e1 127)) (IntKind.wrap .i64 (7 * v3)))), (IntKind.wrap .i64 (v3 + 1)), v4)) else wire_Reader_peek_p8 k (bitv .or .u64 v0 (shlv .u64 (IntKind.wrap .u64 (bitv .and .u8 e1 127)) (IntKind.wrap .i64 (7 * v3)))) v1 v2 (IntKind.wrap .i64 (v3 + 1)) v4) else none)) else (bif decide (0 ≤ (IntKind.wrap .i64 (7 * v3))) then (bif (decide (e1 < 128)) then some (.inr ((bitv .or .u64 v0 (shlv .u64 (IntKind.wrap .u64 (bitv .and .u8 e1 127)) (IntKind.wrap .i64 (7 * v3)))), (IntKind.wrap .i64 (v3 + 1)), v4)) else wire_Reader_peek_p8 k (bitv .or .u64 v0 (shlv .u64 (IntKind.wrap .u64 (bitv .and .u8 e1 127)) (IntKind.wrap .i64 (7 * v3)))) v1 v2 (IntKind.wrap .i64 (v3 + 1)) v4) else none))) else (bif (e1 == 0) then (bif (decide (v3 > 0)) then some (.inl v4) else (bif decide (0 ≤ (IntKind.wrap .i64 (7 * v3))) then (bif (decide (e1 < 128)) then some (.inr ((bitv .or .u64 v0 (shlv .u64 (IntKind.wrap .u64 (bitv .and .u8 e1 127)) (IntKind.wrap .i64 (7 * v3)))), (IntKind.wrap .i64 (v3 + 1)), v4)) else wire_Reader_peek_p8 k (bitv .or .u64 v0 (shlv .u64 (IntKind.wrap .u64 (bitv .and .u8 e1 127)) (IntKind.wrap .i64 (7 * v3)))) v1 v2 (IntKind.wrap .i64 (v3 + 1)) v4) else none)) else (bif decide (0 ≤ (IntKind.wrap .i64 (7 * v3))) then (bif (decide (e1 < 128)) then some (.inr ((bitv .or .u64 v0 (shlv .u64 (IntKind.wrap .u64 (bitv .and .u8 e1 127)) (IntKind.wrap .i64 (7 * v3)))), (IntKind.wrap .i64 (v3 + 1)), v4)) else wire_Reader_peek_p8 k (bitv .or .u64 v0 (shlv .u64 (IntKind.wrap .u64 (bitv .and .u8 e1 127)) (IntKind.wrap .i64 (7 * v3)))) v1 v2 (IntKind.wrap .i64 (v3 + 1)) v4) else none)))) else some (.inl v4))
def wire_Reader_peek_u8 : Part := ⟨⟨[(0, .ptr 1000000 0)], [.val 4 (.int .u64), .val 15 (.slice (.int .u8)), .val 16 (.int .i64), .val 17 (.int .i64), .cells 1000000 [.dyn (.slice (.int .u8)), .dyn (.int .i64), .dyn (.int .i64)]]⟩, [(.exit 0, ⟨[(0, .ptr 1000000 0)], [.cells 1000000 [.dyn (.slice (.int .u8)), .dyn (.int .i64), .dyn (.int .i64)]]⟩), (.ret, ⟨[(0, .ptr 1000000 0)], [.val 2 (.int .u64), .val 3 (.int .i64), .cells 1000000 [.dyn (.slice (.int .u8)), .dyn (.int .i64), .dyn (.int .i64)]]⟩)], fun k x => wire_Reader_peek_p8 k x.1 x.2.1 x.2.2.1 x.2.2.2.1 x.2.2.2.2⟩
def wire_Reader_peek (k : Nat) (x0 : (List Int) × Int × Int) : Option (Int × Int × (List Int) × Int × Int) := (bif (decide ((0 : Int) ≤ x0.2.1) && decide (x0.2.1 ≤ ((x0.1).length : Int)) && decide (((x0.1).length : Int) ≤ ((x0.1).length : Int))) then ((wire_Reader_peek_p8 k 0 (cut x0.1 x0.2.1 ((x0.1).length : Int)) (((cut x0.1 x0.2.1 ((x0.1).length : Int))).length : Int) 0 x0).bind fun o2 => Sum.elim (fun a3 => some (0, 0, a3)) (fun b4 => some b4) o2) else none)
def wire_Reader_peek_spec : FSpec := ⟨[.lent (.pair (.slice (.int .u8)) (.pair (.int .i64) (.int .i64)))], [.imm (.int .u64), .imm (.int .i64), .back (.pair (.slice (.int .u8)) (.pair (.int .i64) (.int .i64)))], fun k x => wire_Reader_peek k x⟩
def wire_Reader_peek_parts : Parts := fun n => cond (Nat.beq n 8) (some wire_Reader_peek_u8) (none)
def wire_Reader_peek_env : List (Nat × FSpec) := []
def wire_Reader_fail (k : Nat) (x0 : (List Int) × Int × Int) (x1 : Int) : Option ((List Int) × Int × Int) := (bif (x0.2.2 == 0) then some (x0.1, (x0.2.1, x1)) else some x0)
def wire_Reader_fail_spec : FSpec := ⟨[.lent (.pair (.slice (.int .u8)) (.pair (.int .i64) (.int .i64))), .imm (.int .i64)], [.back (.pair (.slice (.int .u8)) (.pair (.int .i64) (.int .i64)))], fun k x => wire_Reader_fail k x.1 x.2⟩
def wire_Reader_fail_parts : Parts := fun _ => none
def wire_Reader_fail_env : List (Nat × FSpec) := []
def wire_Reader_Uvarint (k : Nat) (x0 : (List Int) × Int × Int) : Option (Int × (List Int) × Int × Int) := ((wire_Reader_fine k x0).bind fun r1 => (bif (!r1.1) then some (0, r1.2) else ((wire_Reader_peek k r1.2).bind fun r2 => (bif (r2.2.1 == 0) then ((wire_Reader_fail k r2.2.2 5).bind fun r3 => some (r2.1, (r3.1, ((IntKind.wrap .i64 (r3.2.1 + r2.2.1)), r3.2.2)))) else some (r2.1, (r2.2.2.1, ((IntKind.wrap .i64 (r2.2.2.2.1 + r2.2.1)), r2.2.2.2.2)))))))
def wire_Reader_Uvarint_spec : FSpec := ⟨[.lent (.pair (.slice (.int .u8)) (.pair (.int .i64) (.int .i64)))], [.imm (.int .u64), .back (.pair (.slice (.int .u8)) (.pair (.int .i64) (.int .i64)))], fun k x => wire_Reader_Uvarint k x⟩
def wire_Reader_Uvarint_parts : Parts := fun _ => none
def wire_Reader_Uvarint_env : List (Nat × FSpec) := [(52, wire_Reader_fine_spec), (53, wire_Reader_peek_spec), (54, wire_Reader_fail_spec)]
def wire_Reader_number (k : Nat) (x0 : (List Int) × Int × Int) (x1 : Int) : Option (Int × Int × (List Int) × Int × Int) := ((wire_Reader_fine k x0).bind fun r1 => (bif (!r1.1) then some (0, 0, r1.2) else ((wire_Reader_peek k r1.2).bind fun r2 => (bif (r2.2.1 == 0) then ((wire_Reader_fail k r2.2.2 5).bind fun r3 => some (0, 0, r3)) else (bif (decide (r2.1 > 9223372036854775807)) then ((wire_Reader_fail k r2.2.2 3).bind fun r4 => some (0, 0, r4)) else (bif (decide ((IntKind.wrap .i64 r2.1) > x1)) then ((wire_Reader_fail k r2.2.2 3).bind fun r5 => some (0, 0, r5)) else some ((IntKind.wrap .i64 r2.1), r2.2.1, r2.2.2)))))))
def wire_Reader_number_spec : FSpec := ⟨[.lent (.pair (.slice (.int .u8)) (.pair (.int .i64) (.int .i64))), .imm (.int .i64)], [.imm (.int .i64), .imm (.int .i64), .back (.pair (.slice (.int .u8)) (.pair (.int .i64) (.int .i64)))], fun k x => wire_Reader_number k x.1 x.2⟩
def wire_Reader_number_parts : Parts := fun _ => none
def wire_Reader_number_env : List (Nat × FSpec) := [(52, wire_Reader_fine_spec), (53, wire_Reader_peek_spec), (54, wire_Reader_fail_spec)]
def wire_Reader_Number (k : Nat) (x0 : (List Int) × Int × Int) (x1 : Int) : Option (Int × (List Int) × Int × Int) := ((wire_Reader_number k x0 x1).bind fun r1 => (bif (decide (r1.2.1 > 0)) then some (r1.1, (r1.2.2.1, ((IntKind.wrap .i64 (r1.2.2.2.1 + r1.2.1)), r1.2.2.2.2))) else some (r1.1, r1.2.2)))
def wire_Reader_Number_spec : FSpec := ⟨[.lent (.pair (.slice (.int .u8)) (.pair (.int .i64) (.int .i64))), .imm (.int .i64)], [.imm (.int .i64), .back (.pair (.slice (.int .u8)) (.pair (.int .i64) (.int .i64)))], fun k x => wire_Reader_Number k x.1 x.2⟩
def wire_Reader_Number_parts : Parts := fun _ => none
def wire_Reader_Number_env : List (Nat × FSpec) := [(55, wire_Reader_number_spec)]
def wire_Reader_Err (k : Nat) (x0 : (List Int) × Int × Int) : Option (Int × (List Int) × Int × Int) := some (x0.2.2, x0)
def wire_Reader_Err_spec : FSpec := ⟨[.lent (.pair (.slice (.int .u8)) (.pair (.int .i64) (.int .i64)))], [.imm (.int .i64), .back (.pair (.slice (.int .u8)) (.pair (.int .i64) (.int .i64)))], fun k x => wire_Reader_Err k x⟩
def wire_Reader_Err_parts : Parts := fun _ => none
def wire_Reader_Err_env : List (Nat × FSpec) := []
def wire_Reader_Left (k : Nat) (x0 : (List Int) × Int × Int) : Option (Int × (List Int) × Int × Int) := some ((IntKind.wrap .i64 (((x0.1).length : Int) - x0.2.1)), x0)
def wire_Reader_Left_spec : FSpec := ⟨[.lent (.pair (.slice (.int .u8)) (.pair (.int .i64) (.int .i64)))], [.imm (.int .i64), .back (.pair (.slice (.int .u8)) (.pair (.int .i64) (.int .i64)))], fun k x => wire_Reader_Left k x⟩
def wire_Reader_Left_parts : Parts := fun _ => none
def wire_Reader_Left_env : List (Nat × FSpec) := []
def wire_Reader_Done (k : Nat) (x0 : (List Int) × Int × Int) : Option (Int × (List Int) × Int × Int) := ((wire_Reader_Err k x0).bind fun r1 => (bif (r1.1 != 0) then some r1 else ((wire_Reader_Left k r1.2).bind fun r2 => (bif (decide (r2.1 > 0)) then some (5, r2.2) else some (0, r2.2)))))
def wire_Reader_Done_spec : FSpec := ⟨[.lent (.pair (.slice (.int .u8)) (.pair (.int .i64) (.int .i64)))], [.imm (.int .i64), .back (.pair (.slice (.int .u8)) (.pair (.int .i64) (.int .i64)))], fun k x => wire_Reader_Done k x⟩
def wire_Reader_Done_parts : Parts := fun _ => none
def wire_Reader_Done_env : List (Nat × FSpec) := [(56, wire_Reader_Err_spec), (57, wire_Reader_Left_spec)]
def hard_Decode (k : Nat) (x0 : List Int) : Option ((Int × Int × Int) × Int) := ((frame_Next k x0).bind fun r1 => (bif (r1.2.2.2 != 0) then some ((0, (0, 0)), 5) else (bif (r1.1 != 2) then some ((0, (0, 0)), 5) else (bif (r1.2.2.1 != ((x0).length : Int)) then some ((0, (0, 0)), 5) else ((wire_Read k r1.2.1).bind fun r2 => ((wire_Reader_Uvarint k r2).bind fun r3 => ((wire_Reader_Number k r3.2 7).bind fun r4 => ((wire_Reader_Uvarint k r4.2).bind fun r5 => ((wire_Reader_Done k r5.2).bind fun r6 => (bif (r6.1 != 0) then some ((0, (0, 0)), 5) else some ((r3.1, (r4.1, r5.1)), 0)))))))))))
def hard_Decode_spec : FSpec := ⟨[.imm (.slice (.int .u8))], [.agg (.pair (.int .u64) (.pair (.int .i64) (.int .u64))), .imm (.int .i64)], fun k x => hard_Decode k x⟩
def hard_Decode_parts : Parts := fun _ => none
def hard_Decode_env : List (Nat × FSpec) := [(24, frame_Next_spec), (25, wire_Read_spec), (26, wire_Reader_Uvarint_spec), (27, wire_Reader_Number_spec), (28, wire_Reader_Done_spec)]
def hard_Load (k : Nat) (x0 : FL) (x1 : Int) : Option ((Int × Int × Int) × Int × FL) := ((hard_name k x0 x1).bind fun r1 => (bif (!r1.2.1) then some ((0, (0, 0)), 1, r1.2.2) else ((disk_Disk_Read k r1.2.2 r1.1).bind fun r2 => (bif (!r2.2.1) then some ((0, (0, 0)), 0, r2.2.2) else ((hard_Decode k r2.1).bind fun r3 => some (r3.1, r3.2, r2.2.2))))))
def hard_Load_spec : FSpec := ⟨[.disk, .imm (.int .i64)], [.agg (.pair (.int .u64) (.pair (.int .i64) (.int .u64))), .imm (.int .i64), .backd], fun k x => hard_Load k x.1 x.2⟩
def hard_Load_parts : Parts := fun _ => none
def hard_Load_env : List (Nat × FSpec) := [(39, hard_name_spec), (48, disk_Disk_Read_spec), (7, hard_Decode_spec)]
def law07_awake (k : Nat) : Option Bool := ((disk_New k ).bind fun r1 => ((hard_Save k r1 4 (3, (1, 7))).bind fun r2 => (bif (r2.1 != 0) then some false else ((disk_Disk_Crash k r2.2 []).bind fun r3 => ((hard_Load k r3 4).bind fun r4 => (bif (r4.2.1 == 0) then some (T.eqb (.pair (.int .u64) (.pair (.int .i64) (.int .u64))) r4.1 (3, (1, 7))) else some false))))))
def law07_awake_spec : FSpec := ⟨[], [.imm .bool], fun k x => law07_awake k⟩
def law07_awake_parts : Parts := fun _ => none
def law07_awake_env : List (Nat × FSpec) := [(23, disk_New_spec), (16, hard_Save_spec), (14, disk_Disk_Crash_spec), (18, hard_Load_spec)]
def ref02_next (k : Nat) (x0 : (List Int) × Int × Int) : Option (Int × Bool × (List Int) × Int × Int) := (bif (x0.2.2 != 0) then some (0, false, x0) else (bif (decide (x0.2.1 ≥ ((x0.1).length : Int))) then some (0, false, x0) else ((at? x0.1 (IntKind.wrap .i64 ((IntKind.wrap .i64 (x0.2.1 + 1)) - 1))).bind fun e1 => some (e1, true, (x0.1, ((IntKind.wrap .i64 (x0.2.1 + 1)), x0.2.2))))))
def ref02_next_spec : FSpec := ⟨[.lent (.pair (.slice (.int .u8)) (.pair (.int .i64) (.int .i64)))], [.imm (.int .u8), .imm .bool, .back (.pair (.slice (.int .u8)) (.pair (.int .i64) (.int .i64)))], fun k x => ref02_next k x⟩
def ref02_next_parts : Parts := fun _ => none
def ref02_next_env : List (Nat × FSpec) := []
def ref02_wrong (k : Nat) (x0 : (List Int) × Int × Int) (x1 : Int) (x2 : Int) : Option ((List Int) × Int × Int) := (bif (x0.2.2 == 0) then some (x0.1, (x2, x1)) else some x0)
def ref02_wrong_spec : FSpec := ⟨[.lent (.pair (.slice (.int .u8)) (.pair (.int .i64) (.int .i64))), .imm (.int .i64), .imm (.int .i64)], [.back (.pair (.slice (.int .u8)) (.pair (.int .i64) (.int .i64)))], fun k x => ref02_wrong k x.1 x.2.1 x.2.2⟩
def ref02_wrong_parts : Parts := fun _ => none
def ref02_wrong_env : List (Nat × FSpec) := []
def ref02_ReadUvarint_p10 : Nat → Int → Int → Int → ((List Int) × Int × Int) → Option ((Int × (List Int) × Int × Int) ⊕ (Int × (List Int) × Int × Int))
  | 0, _, _, _, _ => none
  | k + 1, v0, v1, v2, v3 => (bif (decide (v2 < 10)) then ((ref02_next k v3).bind fun r1 => (bif (!r1.2.1) then some (.inl (v0, r1.2.2)) else (bif (v2 == 9) then (bif (decide ((IntKind.wrap .u64 (Int.tmod r1.1 128)) > 1)) then some (.inl (v0, r1.2.2)) else (bif decide (0 ≤ (IntKind.wrap .u64 (IntKind.wrap .i64 (7 * v2)))) then (bif (decide (r1.1 < 128)) then (bif (r1.1 == 0) then (bif (decide (v2 > 0)) then some (.inl (v0, r1.2.2)) else some (.inr ((bitv .or .u64 v1 (shlv .u64 (IntKind.wrap .u64 (Int.tmod r1.1 128)) (IntKind.wrap .u64 (IntKind.wrap .i64 (7 * v2))))), r1.2.2))) else some (.inr ((bitv .or .u64 v1 (shlv .u64 (IntKind.wrap .u64 (Int.tmod r1.1 128)) (IntKind.wrap .u64 (IntKind.wrap .i64 (7 * v2))))), r1.2.2))) else ref02_ReadUvarint_p10 k v0 (bitv .or .u64 v1 (shlv .u64 (IntKind.wrap .u64 (Int.tmod r1.1 128)) (IntKind.wrap .u64 (IntKind.wrap .i64 (7 * v2))))) (IntKind.wrap .i64 (v2 + 1)) r1.2.2) else none)) else (bif decide (0 ≤ (IntKind.wrap .u64 (IntKind.wrap .i64 (7 * v2)))) then (bif (decide (r1.1 < 128)) then (bif (r1.1 == 0) then (bif (decide (v2 > 0)) then some (.inl (v0, r1.2.2)) else some (.inr ((bitv .or .u64 v1 (shlv .u64 (IntKind.wrap .u64 (Int.tmod r1.1 128)) (IntKind.wrap .u64 (IntKind.wrap .i64 (7 * v2))))), r1.2.2))) else some (.inr ((bitv .or .u64 v1 (shlv .u64 (IntKind.wrap .u64 (Int.tmod r1.1 128)) (IntKind.wrap .u64 (IntKind.wrap .i64 (7 * v2))))), r1.2.2))) else ref02_ReadUvarint_p10 k v0 (bitv .or .u64 v1 (shlv .u64 (IntKind.wrap .u64 (Int.tmod r1.1 128)) (IntKind.wrap .u64 (IntKind.wrap .i64 (7 * v2))))) (IntKind.wrap .i64 (v2 + 1)) r1.2.2) else none)))) else some (.inl (v0, v3)))
def ref02_ReadUvarint_u10 : Part := ⟨⟨[(0, .ptr 1000000 0)], [.val 3 (.int .i64), .val 4 (.int .u64), .val 5 (.int .i64), .cells 1000000 [.dyn (.slice (.int .u8)), .dyn (.int .i64), .dyn (.int .i64)]]⟩, [(.exit 0, ⟨[(0, .ptr 1000000 0)], [.val 3 (.int .i64), .cells 1000000 [.dyn (.slice (.int .u8)), .dyn (.int .i64), .dyn (.int .i64)]]⟩), (.ret, ⟨[(0, .ptr 1000000 0)], [.val 2 (.int .u64), .cells 1000000 [.dyn (.slice (.int .u8)), .dyn (.int .i64), .dyn (.int .i64)]]⟩)], fun k x => ref02_ReadUvarint_p10 k x.1 x.2.1 x.2.2.1 x.2.2.2⟩
def ref02_ReadUvarint (k : Nat) (x0 : (List Int) × Int × Int) : Option (Int × (List Int) × Int × Int) := ((ref02_ReadUvarint_p10 k x0.2.1 0 0 x0).bind fun o2 => Sum.elim (fun a3 => ((ref02_wrong k a3.2 5 a3.1).bind fun r5 => some (0, r5))) (fun b4 => some b4) o2)
def ref02_ReadUvarint_spec : FSpec := ⟨[.lent (.pair (.slice (.int .u8)) (.pair (.int .i64) (.int .i64)))], [.imm (.int .u64), .back (.pair (.slice (.int .u8)) (.pair (.int .i64) (.int .i64)))], fun k x => ref02_ReadUvarint k x⟩
def ref02_ReadUvarint_parts : Parts := fun n => cond (Nat.beq n 10) (some ref02_ReadUvarint_u10) (none)
def ref02_ReadUvarint_env : List (Nat × FSpec) := [(61, ref02_next_spec), (62, ref02_wrong_spec)]
def ref02_Uvarint_p6 : Nat → Int → (List Int) → Option ((Int × List Int))
  | 0, _, _ => none
  | k + 1, v0, v1 => (bif (decide (v0 ≥ 128)) then (bif room ((v1 ++ [(IntKind.wrap .u8 ((IntKind.wrap .u8 (Int.tmod v0 128)) + 128))])).length 1 then ref02_Uvarint_p6 k (IntKind.wrap .u64 (Int.tdiv v0 128)) (v1 ++ [(IntKind.wrap .u8 ((IntKind.wrap .u8 (Int.tmod v0 128)) + 128))]) else none) else some (v0, v1))
def ref02_Uvarint_u6 : Part := ⟨⟨[(3, .sref 500001)], [.val 0 (.int .u64), .arr 500001 (.int .u8)]⟩, [(.exit 0, ⟨[(3, .sref 500001)], [.val 0 (.int .u64), .arr 500001 (.int .u8)]⟩)], fun k x => ref02_Uvarint_p6 k x.1 x.2⟩
def ref02_Uvarint (k : Nat) (x0 : Int) : Option (List Int) := ((ref02_Uvarint_p6 k x0 []).bind fun o1 => (bif room ((o1.2 ++ [(IntKind.wrap .u8 o1.1)])).length 1 then some (o1.2 ++ [(IntKind.wrap .u8 o1.1)]) else none))
def ref02_Uvarint_spec : FSpec := ⟨[.imm (.int .u64)], [.own (.int .u8)], fun k x => ref02_Uvarint k x⟩
def ref02_Uvarint_parts : Parts := fun n => cond (Nat.beq n 6) (some ref02_Uvarint_u6) (none)
def ref02_Uvarint_env : List (Nat × FSpec) := []
def ref03_value (k : Nat) (x0 : List Int) : Option (Int × Bool) := ((ref02_ReadUvarint k (x0, (0, 0))).bind fun r1 => ((ref02_Uvarint k r1.1).bind fun r2 => some (r1.1, ((toBytes r2) == (toBytes x0)))))
def ref03_value_spec : FSpec := ⟨[.imm (.slice (.int .u8))], [.imm (.int .u64), .imm .bool], fun k x => ref03_value k x⟩
def ref03_value_parts : Parts := fun _ => none
def ref03_value_env : List (Nat × FSpec) := [(30, ref02_ReadUvarint_spec), (34, ref02_Uvarint_spec)]
def ref03_Of_p20 : Nat → (List Int) → Int → Int → Int → Option (((List Int) × Int × Int))
  | 0, _, _, _, _ => none
  | k + 1, v0, v1, v2, v3 => (bif (decide (v3 < 8)) then ((at? v0 v2).bind fun e1 => (bif decide (0 ≤ (IntKind.wrap .u64 v3)) then (bif ((Int.tmod (bitv .xor .u32 v1 (shrv .u32 (IntKind.wrap .u32 e1) (IntKind.wrap .u64 v3))) 2) == 1) then ref03_Of_p20 k v0 (bitv .xor .u32 (IntKind.wrap .u32 (Int.tdiv v1 2)) 3988292384) v2 (IntKind.wrap .i64 (v3 + 1)) else ref03_Of_p20 k v0 (IntKind.wrap .u32 (Int.tdiv v1 2)) v2 (IntKind.wrap .i64 (v3 + 1))) else none)) else some (v0, v1, v2))
def ref03_Of_u20 : Part := ⟨⟨[], [.val 0 (.slice (.int .u8)), .val 3 (.int .u32), .val 4 (.int .i64), .val 5 (.int .i64)]⟩, [(.exit 2, ⟨[], [.val 0 (.slice (.int .u8)), .val 3 (.int .u32), .val 4 (.int .i64)]⟩)], fun k x => ref03_Of_p20 k x.1 x.2.1 x.2.2.1 x.2.2.2⟩
def ref03_Of_p8 : Nat → (List Int) → Int → Int → Option Int
  | 0, _, _, _ => none
  | k + 1, v0, v1, v2 => (bif (decide (v2 < ((v0).length : Int))) then ((ref03_Of_p20 k v0 v1 v2 0).bind fun o2 => ref03_Of_p8 k o2.1 o2.2.1 (IntKind.wrap .i64 (o2.2.2 + 1))) else some v1)
def ref03_Of_u8 : Part := ⟨⟨[], [.val 0 (.slice (.int .u8)), .val 3 (.int .u32), .val 4 (.int .i64)]⟩, [(.exit 0, ⟨[], [.val 3 (.int .u32)]⟩)], fun k x => ref03_Of_p8 k x.1 x.2.1 x.2.2⟩
def ref03_Of (k : Nat) (x0 : List Int) : Option Int := ((ref03_Of_p8 k x0 4294967295 0).bind fun o3 => some (bitv .xor .u32 o3 4294967295))
def ref03_Of_spec : FSpec := ⟨[.imm (.slice (.int .u8))], [.imm (.int .u32)], fun k x => ref03_Of k x⟩
def ref03_Of_parts : Parts := fun n => cond (Nat.beq n 20) (some ref03_Of_u20) (cond (Nat.beq n 8) (some ref03_Of_u8) (none))
def ref03_Of_env : List (Nat × FSpec) := []
def ref03_Seal (k : Nat) (x0 : List Int) : Option (List Int) := ((ref03_Of k x0).bind fun r1 => (bif room (([(IntKind.wrap .u8 (shrv .u32 r1 24)), (IntKind.wrap .u8 (shrv .u32 r1 16)), (IntKind.wrap .u8 (shrv .u32 r1 8)), (IntKind.wrap .u8 r1)] ++ x0)).length 1 then some ([(IntKind.wrap .u8 (shrv .u32 r1 24)), (IntKind.wrap .u8 (shrv .u32 r1 16)), (IntKind.wrap .u8 (shrv .u32 r1 8)), (IntKind.wrap .u8 r1)] ++ x0) else none))
def ref03_Seal_spec : FSpec := ⟨[.imm (.slice (.int .u8))], [.own (.int .u8)], fun k x => ref03_Seal k x⟩
def ref03_Seal_parts : Parts := fun _ => none
def ref03_Seal_env : List (Nat × FSpec) := [(74, ref03_Of_spec)]
def ref03_open_p14 : Nat → (List Int) → Int → Option (Unit ⊕ Bool)
  | 0, _, _ => none
  | k + 1, v0, v1 => (bif (decide (v1 < ((v0).length : Int))) then ((at? v0 v1).bind fun e1 => (bif (decide (e1 < 128)) then some (.inr false) else ref03_open_p14 k v0 (IntKind.wrap .i64 (v1 + 1)))) else some (.inl ()))
def ref03_open_u14 : Part := ⟨⟨[], [.val 0 (.slice (.int .u8)), .val 3 (.int .i64)]⟩, [(.exit 0, ⟨[], []⟩), (.ret, ⟨[], [.val 2 .bool]⟩)], fun k x => ref03_open_p14 k x.1 x.2⟩
def ref03_open (k : Nat) (x0 : List Int) : Option Bool := (bif (decide (((x0).length : Int) > 2)) then some false else ((ref03_open_p14 k x0 0).bind fun o2 => Sum.elim (fun a3 => some true) (fun b4 => some b4) o2))
def ref03_open_spec : FSpec := ⟨[.imm (.slice (.int .u8))], [.imm .bool], fun k x => ref03_open k x⟩
def ref03_open_parts : Parts := fun n => cond (Nat.beq n 14) (some ref03_open_u14) (none)
def ref03_open_env : List (Nat × FSpec) := []
def ref03_Next_p6 : Nat → (List Int) → Int → Int → Option (((List Int) × Int) ⊕ (Int × Int × Int × List Int))
  | 0, _, _, _ => none
  | k + 1, v0, v1, v2 => (bif (decide (v1 ≤ ((v0).length : Int))) then (bif (decide (v1 ≤ 10)) then (bif (true && decide ((0 : Int) ≤ v1) && decide (v1 ≤ ((v0).length : Int))) then ((ref03_value k (cut v0 0 v1)).bind fun r1 => (bif (!r1.2) then ref03_Next_p6 k v0 (IntKind.wrap .i64 (v1 + 1)) v2 else (bif (decide (r1.1 < 5)) then some (.inr (0, 5, 0, [])) else (bif (decide (r1.1 > 1048576)) then some (.inr (0, 5, 0, [])) else (bif (decide ((IntKind.wrap .u64 (IntKind.wrap .i64 (((v0).length : Int) - v1))) < r1.1)) then some (.inr (0, 12, 0, [])) else (bif (decide ((0 : Int) ≤ v1) && decide (v1 ≤ (IntKind.wrap .i64 (v1 + (IntKind.wrap .i64 r1.1)))) && decide ((IntKind.wrap .i64 (v1 + (IntKind.wrap .i64 r1.1))) ≤ ((v0).length : Int))) then (bif (true && decide ((4 : Int) ≤ (((cut v0 v1 (IntKind.wrap .i64 (v1 + (IntKind.wrap .i64 r1.1))))).length : Int)) && decide ((((cut v0 v1 (IntKind.wrap .i64 (v1 + (IntKind.wrap .i64 r1.1))))).length : Int) ≤ (((cut v0 v1 (IntKind.wrap .i64 (v1 + (IntKind.wrap .i64 r1.1))))).length : Int))) then ((ref03_Seal k (cut (cut v0 v1 (IntKind.wrap .i64 (v1 + (IntKind.wrap .i64 r1.1)))) 4 (((cut v0 v1 (IntKind.wrap .i64 (v1 + (IntKind.wrap .i64 r1.1))))).length : Int))).bind fun r2 => (bif (!((toBytes r2) == (toBytes (cut v0 v1 (IntKind.wrap .i64 (v1 + (IntKind.wrap .i64 r1.1))))))) then some (.inr (0, 5, 0, [])) else ((at? (cut v0 v1 (IntKind.wrap .i64 (v1 + (IntKind.wrap .i64 r1.1)))) 4).bind fun e3 => (bif (true && decide ((5 : Int) ≤ (((cut v0 v1 (IntKind.wrap .i64 (v1 + (IntKind.wrap .i64 r1.1))))).length : Int)) && decide ((((cut v0 v1 (IntKind.wrap .i64 (v1 + (IntKind.wrap .i64 r1.1))))).length : Int) ≤ (((cut v0 v1 (IntKind.wrap .i64 (v1 + (IntKind.wrap .i64 r1.1))))).length : Int))) then (bif room (([] ++ (cut (cut v0 v1 (IntKind.wrap .i64 (v1 + (IntKind.wrap .i64 r1.1)))) 5 (((cut v0 v1 (IntKind.wrap .i64 (v1 + (IntKind.wrap .i64 r1.1))))).length : Int)))).length 1 then some (.inr ((IntKind.wrap .i64 (v1 + (IntKind.wrap .i64 r1.1))), 0, e3, ([] ++ (cut (cut v0 v1 (IntKind.wrap .i64 (v1 + (IntKind.wrap .i64 r1.1)))) 5 (((cut v0 v1 (IntKind.wrap .i64 (v1 + (IntKind.wrap .i64 r1.1))))).length : Int))))) else none) else none)))) else none) else none)))))) else none) else some (.inl (v0, v2))) else some (.inl (v0, v2)))
def ref03_Next_u6 : Part := ⟨⟨[(2, .ptr 500000 0)], [.val 0 (.slice (.int .u8)), .val 5 (.int .i64), .cells 500000 [.dyn (.int .u8), .stat (.nils)]]⟩, [(.exit 0, ⟨[(2, .ptr 500000 0)], [.val 0 (.slice (.int .u8)), .cells 500000 [.dyn (.int .u8), .stat (.nils)]]⟩), (.ret, ⟨[(2, .ptr 500000 0)], [.val 3 (.int .i64), .val 4 (.int .i64), .cells 500000 [.dyn (.int .u8), .stat (.sref 500001)], .arr 500001 (.int .u8)]⟩)], fun k x => ref03_Next_p6 k x.1 x.2.1 x.2.2⟩
def ref03_Next (k : Nat) (x0 : List Int) : Option ((Int × List Int) × Int × Int) := ((ref03_Next_p6 k x0 1 0).bind fun o4 => Sum.elim (fun a5 => ((ref03_open k a5.1).bind fun r7 => (bif r7 then some ((0, []), 0, 12) else some ((0, []), 0, 5)))) (fun b6 => some (b6.2.2, b6.1, b6.2.1)) o4)
def ref03_Next_spec : FSpec := ⟨[.imm (.slice (.int .u8))], [.agg (.pair (.int .u8) (.slice (.int .u8))), .imm (.int .i64), .imm (.int .i64)], fun k x => ref03_Next k x⟩
def ref03_Next_parts : Parts := fun n => cond (Nat.beq n 6) (some ref03_Next_u6) (none)
def ref03_Next_env : List (Nat × FSpec) := [(58, ref03_value_spec), (59, ref03_Seal_spec), (60, ref03_open_spec)]
def ref02_ReadNumber (k : Nat) (x0 : (List Int) × Int × Int) (x1 : Int) : Option (Int × (List Int) × Int × Int) := ((ref02_ReadUvarint k x0).bind fun r1 => (bif (r1.2.2.2 != 0) then some (0, r1.2) else (bif (decide (x1 < 0)) then ((ref02_wrong k r1.2 3 x0.2.1).bind fun r2 => some (0, r2)) else (bif (decide (r1.1 > (IntKind.wrap .u64 x1))) then ((ref02_wrong k r1.2 3 x0.2.1).bind fun r3 => some (0, r3)) else some ((IntKind.wrap .i64 r1.1), r1.2)))))
def ref02_ReadNumber_spec : FSpec := ⟨[.lent (.pair (.slice (.int .u8)) (.pair (.int .i64) (.int .i64))), .imm (.int .i64)], [.imm (.int .i64), .back (.pair (.slice (.int .u8)) (.pair (.int .i64) (.int .i64)))], fun k x => ref02_ReadNumber k x.1 x.2⟩
def ref02_ReadNumber_parts : Parts := fun _ => none
def ref02_ReadNumber_env : List (Nat × FSpec) := [(30, ref02_ReadUvarint_spec), (62, ref02_wrong_spec)]
def ref07_May (k : Nat) (x0 : Int × Int × Int) : Option Bool := (bif (decide (x0.2.1 ≥ 0)) then some (decide (x0.2.1 ≤ 7)) else some false)
def ref07_May_spec : FSpec := ⟨[.agg (.pair (.int .u64) (.pair (.int .i64) (.int .u64)))], [.imm .bool], fun k x => ref07_May k x⟩
def ref07_May_parts : Parts := fun _ => none
def ref07_May_env : List (Nat × FSpec) := []
def ref03_Frame (k : Nat) (x0 : Int) (x1 : List Int) : Option (List Int) := (bif room (([x0] ++ x1)).length 1 then ((ref03_Seal k ([x0] ++ x1)).bind fun r1 => ((ref02_Uvarint k (IntKind.wrap .u64 ((r1).length : Int))).bind fun r2 => (bif room ((r2 ++ r1)).length 1 then some (r2 ++ r1) else none))) else none)
def ref03_Frame_spec : FSpec := ⟨[.imm (.int .u8), .imm (.slice (.int .u8))], [.own (.int .u8)], fun k x => ref03_Frame k x.1 x.2⟩
def ref03_Frame_parts : Parts := fun _ => none
def ref03_Frame_env : List (Nat × FSpec) := [(59, ref03_Seal_spec), (34, ref02_Uvarint_spec)]
def ref07_Encode (k : Nat) (x0 : Int × Int × Int) : Option (List Int) := ((ref02_Uvarint k x0.1).bind fun r1 => ((ref02_Uvarint k (IntKind.wrap .u64 x0.2.1)).bind fun r2 => (bif room ((r1 ++ r2)).length 1 then ((ref02_Uvarint k x0.2.2).bind fun r3 => (bif room (((r1 ++ r2) ++ r3)).length 1 then ((ref03_Frame k 2 ((r1 ++ r2) ++ r3)).bind fun r4 => some r4) else none)) else none)))
def ref07_Encode_spec : FSpec := ⟨[.agg (.pair (.int .u64) (.pair (.int .i64) (.int .u64)))], [.own (.int .u8)], fun k x => ref07_Encode k x⟩
def ref07_Encode_parts : Parts := fun _ => none
def ref07_Encode_env : List (Nat × FSpec) := [(34, ref02_Uvarint_spec), (35, ref03_Frame_spec)]
def ref07_Decode (k : Nat) (x0 : List Int) : Option ((Int × Int × Int) × Bool) := ((ref03_Next k x0).bind fun r1 => (bif (r1.2.2 != 0) then some ((0, (0, 0)), false) else ((ref02_ReadUvarint k (r1.1.2, (0, 0))).bind fun r2 => ((ref02_ReadNumber k r2.2 7).bind fun r3 => ((ref02_ReadUvarint k r3.2).bind fun r4 => ((ref07_May k (r2.1, (r3.1, r4.1))).bind fun r5 => (bif (!r5) then some ((0, (0, 0)), false) else ((ref07_Encode k (r2.1, (r3.1, r4.1))).bind fun r6 => (bif (!((toBytes r6) == (toBytes x0))) then some ((0, (0, 0)), false) else some ((r2.1, (r3.1, r4.1)), true))))))))))
def ref07_Decode_spec : FSpec := ⟨[.imm (.slice (.int .u8))], [.agg (.pair (.int .u64) (.pair (.int .i64) (.int .u64))), .imm .bool], fun k x => ref07_Decode k x⟩
def ref07_Decode_parts : Parts := fun _ => none
def ref07_Decode_env : List (Nat × FSpec) := [(29, ref03_Next_spec), (30, ref02_ReadUvarint_spec), (31, ref02_ReadNumber_spec), (11, ref07_May_spec), (12, ref07_Encode_spec)]
def law07_HardDecodes (k : Nat) (x0 : List Int) : Option Bool := (bif (decide (((x0).length : Int) > 5000)) then ((law07_awake k ).bind fun r1 => some r1) else (bif room (([] ++ x0)).length 1 then ((hard_Decode k ([] ++ x0)).bind fun r2 => ((ref07_Decode k x0).bind fun r3 => (bif (T.eqb (.pair (.int .u64) (.pair (.int .i64) (.int .u64))) r2.1 r3.1) then (bif ((r2.2 == 0) == r3.2) then (bif r3.2 then ((law07_awake k ).bind fun r4 => some r4) else (bif (r2.2 == 5) then ((law07_awake k ).bind fun r5 => some r5) else some false)) else some false) else some false))) else none))
def law07_HardDecodes_spec : FSpec := ⟨[.imm (.slice (.int .u8))], [.imm .bool], fun k x => law07_HardDecodes k x⟩
def law07_HardDecodes_parts : Parts := fun _ => none
def law07_HardDecodes_env : List (Nat × FSpec) := [(6, law07_awake_spec), (7, hard_Decode_spec), (8, ref07_Decode_spec)]
def hard_Later (k : Nat) (x0 : Int × Int × Int) (x1 : Int × Int × Int) : Option Bool := (bif (decide (x0.1 > x1.1)) then some true else (bif (x0.1 == x1.1) then (bif (x0.2.1 == x1.2.1) then some (decide (x0.2.2 ≥ x1.2.2)) else (bif (x1.2.1 == 0) then some (decide (x0.2.2 ≥ x1.2.2)) else some false)) else some false))
def hard_Later_spec : FSpec := ⟨[.agg (.pair (.int .u64) (.pair (.int .i64) (.int .u64))), .agg (.pair (.int .u64) (.pair (.int .i64) (.int .u64)))], [.imm .bool], fun k x => hard_Later k x.1 x.2⟩
def hard_Later_parts : Parts := fun _ => none
def hard_Later_env : List (Nat × FSpec) := []
def law07_HardCodes_p4 (k : Nat) (v0 : Int) (v1 : Int × Int × Int) (v2 : Int × Int × Int) (v3 : List Int) : Option ((Int × Bool × (Int × Int × Int) × (Int × Int × Int) × List Int)) := (bif (decide (v1.1 > v2.1)) then some (v0, true, v1, v2, v3) else (bif (v1.1 == v2.1) then (bif (decide (v1.2.2 ≥ v2.2.2)) then (bif (v1.2.1 == v2.2.1) then some (v0, true, v1, v2, v3) else some (v0, (v2.2.1 == 0), v1, v2, v3)) else some (v0, false, v1, v2, v3)) else some (v0, false, v1, v2, v3)))
def law07_HardCodes_u4 : Part := ⟨⟨[(2, .ptr 500000 0), (3, .ptr 500001 0), (5, .sref 500002)], [.val 6 (.int .i64), .cells 500000 [.dyn (.int .u64), .dyn (.int .i64), .dyn (.int .u64)], .cells 500001 [.dyn (.int .u64), .dyn (.int .i64), .dyn (.int .u64)], .arr 500002 (.int .u8)]⟩, [(.normal, ⟨[(2, .ptr 500000 0), (3, .ptr 500001 0), (5, .sref 500002)], [.val 6 (.int .i64), .val 7 .bool, .cells 500000 [.dyn (.int .u64), .dyn (.int .i64), .dyn (.int .u64)], .cells 500001 [.dyn (.int .u64), .dyn (.int .i64), .dyn (.int .u64)], .arr 500002 (.int .u8)]⟩)], fun k x => law07_HardCodes_p4 k x.1 x.2.1 x.2.2.1 x.2.2.2⟩
def law07_HardCodes (k : Nat) (x0 : Int × Int × Int) (x1 : Int × Int × Int) : Option Bool := ((hard_Encode k x0).bind fun r1 => ((law07_HardCodes_p4 k r1.2 x0 x1 r1.1).bind fun o2 => ((hard_Later k o2.2.2.1 o2.2.2.2.1).bind fun r3 => (bif (!(r3 == o2.2.1)) then some false else ((ref07_May k o2.2.2.1).bind fun r4 => (bif (!r4) then (bif (o2.1 == 1) then (bif (((o2.2.2.2.2).length : Int) == 0) then ((law07_awake k ).bind fun r5 => some r5) else some false) else some false) else ((hard_Decode k o2.2.2.2.2).bind fun r6 => (bif (o2.1 == 0) then ((ref07_Encode k o2.2.2.1).bind fun r7 => (bif ((toBytes o2.2.2.2.2) == (toBytes r7)) then (bif (r6.2 == 0) then (bif (T.eqb (.pair (.int .u64) (.pair (.int .i64) (.int .u64))) r6.1 o2.2.2.1) then ((law07_awake k ).bind fun r8 => some r8) else some false) else some false) else some false)) else some false))))))))
def law07_HardCodes_spec : FSpec := ⟨[.agg (.pair (.int .u64) (.pair (.int .i64) (.int .u64))), .agg (.pair (.int .u64) (.pair (.int .i64) (.int .u64)))], [.imm .bool], fun k x => law07_HardCodes k x.1 x.2⟩
def law07_HardCodes_parts : Parts := fun n => cond (Nat.beq n 4) (some law07_HardCodes_u4) (none)
def law07_HardCodes_env : List (Nat × FSpec) := [(9, hard_Encode_spec), (10, hard_Later_spec), (11, ref07_May_spec), (6, law07_awake_spec), (7, hard_Decode_spec), (12, ref07_Encode_spec)]
end Go.Proofs.YthdkecdbodenkaaGreatDoor.gg
