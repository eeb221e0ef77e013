/- What the functions compute: printed by a program of our own. -/
import Derived.Test.YtcbmmkjlppjfoaaGreatDoorK6
import Derived.Test.YtcbmmkjlppjfoaaGreatDoorK5
import Derived.Test.YtcbmmkjlppjfoaaGreatDoorLaidI
import Derived.Test.YtcbmmkjlppjfoaaGreatDoorItoaI
import Derived.Test.YtcbmmkjlppjfoaaGreatDoorTrimI
import Derived.Test.YtcbmmkjlppjfoaaGreatDoorKeysI
open Go Go.GG Go.Proofs
set_option linter.unusedVariables false
namespace Go.Proofs.YtcbmmkjlppjfoaaGreatDoor.gg
def tab_gudgeon_crc_known : List Int := [0, 498536548, 997073096, 651767980, 1994146192, 1802195444, 1303535960, 1342533948, 3988292384, 4027552580, 3604390888, 3412177804, 2607071920, 2262029012, 2685067896, 3183342108]
instance tabs : Tabs := ⟨tabsOf [(0, .u32, tab_gudgeon_crc_known), (3, .u64, Lib.pow10Tab)]⟩
def tab : Tab := [(3, ⟨.int .i64, 1, 8, [.int .i64 0], some (.int .i64), false⟩),
  (4, ⟨.bool, 1, 1, [.bool false], some .bool, false⟩),
  (5, ⟨.int .u8, 1, 1, [.int .u8 0], some (.int .u8), false⟩),
  (9, ⟨.str, 1, 16, [.string ⟨#[]⟩], some .str, false⟩),
  (22, ⟨.slice 5, 1, 24, [.slice none 0 0], some (.slice (.int .u8)), false⟩),
  (27, ⟨.ptr 65, 1, 8, [.pointer none], none, false⟩),
  (28, ⟨.int .i64, 1, 8, [.int .i64 0], some (.int .i64), false⟩),
  (34, ⟨.slice 3, 1, 24, [.slice none 0 0], some (.slice (.int .i64)), false⟩),
  (35, ⟨.int .u64, 1, 8, [.int .u64 0], some (.int .u64), false⟩),
  (49, ⟨.ptr 67, 1, 8, [.pointer none], none, false⟩),
  (52, ⟨.slice 22, 1, 24, [.slice none 0 0], some (.slice (.slice (.int .u8))), false⟩),
  (54, ⟨.slice 4, 1, 24, [.slice none 0 0], some (.slice .bool), false⟩),
  (55, ⟨.slice 9, 1, 24, [.slice none 0 0], some (.slice .str), false⟩),
  (63, ⟨.map 9 74, 1, 8, [.map none], none, false⟩),
  (65, ⟨.struct [(63, 0)], 1, 8, [.map none], none, false⟩),
  (67, ⟨.struct [(3, 0), (52, 1), (54, 2)], 3, 56, [.int .i64 0, .slice none 0 0, .slice none 0 0], some (.pair (.int .i64) (.pair (.slice (.slice (.int .u8))) (.slice .bool))), false⟩),
  (74, ⟨.ptr 77, 1, 8, [.pointer none], none, false⟩),
  (77, ⟨.struct [(22, 0), (3, 1)], 2, 32, [.slice none 0 0, .int .i64 0], some (.pair (.slice (.int .u8)) (.int .i64)), false⟩),
  (101, ⟨.ptr 130, 1, 8, [.pointer none], none, false⟩),
  (130, ⟨.struct [(22, 0), (3, 1), (28, 2)], 3, 40, [.slice none 0 0, .int .i64 0, .int .i64 0], some (.pair (.slice (.int .u8)) (.pair (.int .i64) (.int .i64))), false⟩),
  (147, ⟨.int .u32, 1, 4, [.int .u32 0], some (.int .u32), false⟩),
  (177, ⟨.array 16 147, 16, 64, [.int .u32 0, .int .u32 0, .int .u32 0, .int .u32 0, .int .u32 0, .int .u32 0, .int .u32 0, .int .u32 0, .int .u32 0, .int .u32 0, .int .u32 0, .int .u32 0, .int .u32 0, .int .u32 0, .int .u32 0, .int .u32 0], some (.pair (.int .u32) (.pair (.int .u32) (.pair (.int .u32) (.pair (.int .u32) (.pair (.int .u32) (.pair (.int .u32) (.pair (.int .u32) (.pair (.int .u32) (.pair (.int .u32) (.pair (.int .u32) (.pair (.int .u32) (.pair (.int .u32) (.pair (.int .u32) (.pair (.int .u32) (.pair (.int .u32) (.int .u32)))))))))))))))), false⟩)]
def strconv_Itoa_spec : FSpec := itoaSpec
def disk_Disk_is (k : Nat) (x0 : FL) : Option (Bool × FL) := some (true, x0)
def disk_Disk_is_spec : FSpec := ⟨[.disk], [.imm .bool, .backd], fun k x => disk_Disk_is k x⟩
def disk_Disk_is_parts : Parts := fun _ => none
def disk_Disk_is_env : List (Nat × FSpec) := []
def disk_Disk_find (k : Nat) (x0 : FL) (x1 : List UInt8) : Option ((FL × Option (List UInt8)) × Int) := ((disk_Disk_is k x0).bind fun r1 => (bif (!r1.1) then some ((r1.2, none), 1) else ((mfind (kt := .str) x1 r1.2).elim (some ((r1.2, none), 4)) fun x2 => some (((mset (kt := .str) x1 (x2.1, x2.2) r1.2), some x1), 0))))
def disk_Disk_find_spec : FSpec := ⟨[.disk, .imm .str], [.find, .imm (.int .i64)], fun k x => disk_Disk_find k x.1 x.2⟩
def disk_Disk_find_parts : Parts := fun _ => none
def disk_Disk_find_env : List (Nat × FSpec) := [(53, disk_Disk_is_spec)]
def disk_Disk_Sync (k : Nat) (x0 : FL) (x1 : List UInt8) : Option (Int × FL) := ((disk_Disk_find k x0 x1).bind fun r1 => ((r1.1.2).elim ((bif (r1.2 == 0) then none else some (r1.2, r1.1.1))) fun k2 => ((mfind (kt := .str) k2 r1.1.1).bind fun x3 => (bif (r1.2 == 0) then some (r1.2, (mset (kt := .str) k2 (x3.1, ((x3.1).length : Int)) r1.1.1)) else some (r1.2, (mset (kt := .str) k2 (x3.1, x3.2) r1.1.1))))))
def disk_Disk_Sync_spec : FSpec := ⟨[.disk, .imm .str], [.imm (.int .i64), .backd], fun k x => disk_Disk_Sync k x.1 x.2⟩
def disk_Disk_Sync_parts : Parts := fun _ => none
def disk_Disk_Sync_env : List (Nat × FSpec) := [(59, disk_Disk_find_spec)]
def snap_name (k : Nat) (x0 : FL) (x1 : Int) : Option ((List UInt8) × Bool × FL) := ((itoaF x1).bind fun r1 => (bif Nat.ble (([115, 110, 97, 112, 45] : List UInt8).length + r1.length) 9223372036854775807 then ((disk_Disk_Sync k x0 []).bind fun r2 => (bif (r2.1 != 1) then (bif (decide (x1 ≥ 0)) then some (([115, 110, 97, 112, 45] ++ r1), (decide (x1 ≤ 999)), r2.2) else some (([115, 110, 97, 112, 45] ++ r1), false, r2.2)) else some (([115, 110, 97, 112, 45] ++ r1), false, r2.2))) else none))
def snap_name_spec : FSpec := ⟨[.disk, .imm (.int .i64)], [.imm .str, .imm .bool, .backd], fun k x => snap_name k x.1 x.2⟩
def snap_name_parts : Parts := fun _ => none
def snap_name_env : List (Nat × FSpec) := [(56, strconv_Itoa_spec), (35, disk_Disk_Sync_spec)]
def slices_Clone_byte_byte_nil (k : Nat) (x0 : Unit) : Option (List Int) := some []
def slices_Clone_byte_byte_nil_spec : FSpec := ⟨[.nils], [.own (.int .u8)], fun k x => slices_Clone_byte_byte_nil k x⟩
def slices_Clone_byte_byte_nil_parts : Parts := fun _ => none
def slices_Clone_byte_byte_nil_env : List (Nat × FSpec) := []
def slices_Clone_byte_byte (k : Nat) (x0 : List Int) : Option (List Int) := (bif room (([] ++ x0)).length 1 then some ([] ++ x0) else none)
def slices_Clone_byte_byte_spec : FSpec := ⟨[.imm (.slice (.int .u8))], [.own (.int .u8)], fun k x => slices_Clone_byte_byte k x⟩
def slices_Clone_byte_byte_sspec : FSpec := ⟨[.nnil (.int .u8)], [.own (.int .u8)], fun k x => slices_Clone_byte_byte k x⟩
def slices_Clone_byte_byte_parts : Parts := fun _ => none
def slices_Clone_byte_byte_env : List (Nat × FSpec) := []
def disk_Disk_Read (k : Nat) (x0 : FL) (x1 : List UInt8) : Option ((List Int) × Bool × FL) := ((disk_Disk_find k x0 x1).bind fun r1 => ((r1.1.2).elim ((bif (r1.2 != 0) then some ([], false, r1.1.1) else none)) fun k2 => ((mfind (kt := .str) k2 r1.1.1).bind fun x3 => (bif (r1.2 != 0) then some ([], false, (mset (kt := .str) k2 (x3.1, x3.2) r1.1.1)) else ((slices_Clone_byte_byte k x3.1).bind fun r4 => some (r4, true, (mset (kt := .str) k2 (x3.1, x3.2) r1.1.1)))))))
def disk_Disk_Read_spec : FSpec := ⟨[.disk, .imm .str], [.own (.int .u8), .imm .bool, .backd], fun k x => disk_Disk_Read k x.1 x.2⟩
def disk_Disk_Read_parts : Parts := fun _ => none
def disk_Disk_Read_env : List (Nat × FSpec) := [(59, disk_Disk_find_spec), (25, slices_Clone_byte_byte_spec)]
def frame_size_p6 : Nat → (List Int) → Int → Int → (List Int) → Int → Int → Option (((List Int) × Int × Int) ⊕ (Int × Int × Int))
  | 0, _, _, _, _, _, _ => none
  | k + 1, v0, v1, v2, v3, v4, v5 => (bif (decide (v5 < v4)) then ((at? v3 v5).bind fun e1 => (bif (v5 == 3) then some (.inr (0, 0, 5)) else (bif (decide (v5 > 0)) then (bif (e1 == 0) then some (.inr (0, 0, 5)) else (bif decide (0 ≤ (IntKind.wrap .i64 (7 * v5))) then (bif (decide (e1 < 128)) then some (.inl (v0, (bitv .or .i64 v1 (shlv .i64 (IntKind.wrap .i64 (bitv .and .u8 e1 127)) (IntKind.wrap .i64 (7 * v5)))), (IntKind.wrap .i64 (v5 + 1)))) else frame_size_p6 k v0 (bitv .or .i64 v1 (shlv .i64 (IntKind.wrap .i64 (bitv .and .u8 e1 127)) (IntKind.wrap .i64 (7 * v5)))) v2 v3 v4 (IntKind.wrap .i64 (v5 + 1))) else none)) else (bif decide (0 ≤ (IntKind.wrap .i64 (7 * v5))) then (bif (decide (e1 < 128)) then some (.inl (v0, (bitv .or .i64 v1 (shlv .i64 (IntKind.wrap .i64 (bitv .and .u8 e1 127)) (IntKind.wrap .i64 (7 * v5)))), (IntKind.wrap .i64 (v5 + 1)))) else frame_size_p6 k v0 (bitv .or .i64 v1 (shlv .i64 (IntKind.wrap .i64 (bitv .and .u8 e1 127)) (IntKind.wrap .i64 (7 * v5)))) v2 v3 v4 (IntKind.wrap .i64 (v5 + 1))) else none)))) else some (.inl (v0, v1, v2)))
def frame_size_u6 : Part := ⟨⟨[], [.val 0 (.slice (.int .u8)), .val 2 (.int .i64), .val 3 (.int .i64), .val 7 (.slice (.int .u8)), .val 8 (.int .i64), .val 9 (.int .i64)]⟩, [(.exit 0, ⟨[], [.val 0 (.slice (.int .u8)), .val 2 (.int .i64), .val 3 (.int .i64)]⟩), (.ret, ⟨[], [.val 2 (.int .i64), .val 3 (.int .i64), .val 4 (.int .i64)]⟩)], fun k x => frame_size_p6 k x.1 x.2.1 x.2.2.1 x.2.2.2.1 x.2.2.2.2.1 x.2.2.2.2.2⟩
def frame_size (k : Nat) (x0 : List Int) : Option (Int × Int × Int) := ((frame_size_p6 k x0 0 0 x0 ((x0).length : Int) 0).bind fun o2 => Sum.elim (fun a3 => (bif (a3.2.2 == 0) then (bif (decide (((a3.1).length : Int) < 3)) then some (0, 0, 12) else (bif (a3.2.2 == 0) then some (0, 0, 5) else (bif (decide (a3.2.1 < 5)) then some (0, 0, 5) else (bif (decide (a3.2.1 > 1048576)) then some (0, 0, 5) else some (a3.2.1, a3.2.2, 0))))) else (bif (a3.2.2 == 0) then some (0, 0, 5) else (bif (decide (a3.2.1 < 5)) then some (0, 0, 5) else (bif (decide (a3.2.1 > 1048576)) then some (0, 0, 5) else some (a3.2.1, a3.2.2, 0)))))) (fun b4 => some b4) o2)
def frame_size_spec : FSpec := ⟨[.imm (.slice (.int .u8))], [.imm (.int .i64), .imm (.int .i64), .imm (.int .i64)], fun k x => frame_size k x⟩
def frame_size_parts : Parts := fun n => cond (Nat.beq n 6) (some frame_size_u6) (none)
def frame_size_env : List (Nat × FSpec) := []
def crc_Step_p8 : Nat → Int → (List Int) → Int → Int → Option Int
  | 0, _, _, _, _ => none
  | k + 1, v0, v1, v2, v3 => (bif (decide (v3 < v2)) then ((at? v1 v3).bind fun e1 => (bif (decide (0 ≤ (bitv .and .u32 (bitv .xor .u32 v0 (IntKind.wrap .u32 e1)) 15)) && decide ((bitv .and .u32 (bitv .xor .u32 v0 (IntKind.wrap .u32 e1)) 15) < ((16 : Nat) : Int))) then ((at? tab_gudgeon_crc_known (bitv .and .u32 (bitv .xor .u32 v0 (IntKind.wrap .u32 e1)) 15)).bind fun e2 => (bif (decide (0 ≤ (bitv .and .u32 (bitv .xor .u32 e2 (shrv .u32 (bitv .xor .u32 v0 (IntKind.wrap .u32 e1)) 4)) 15)) && decide ((bitv .and .u32 (bitv .xor .u32 e2 (shrv .u32 (bitv .xor .u32 v0 (IntKind.wrap .u32 e1)) 4)) 15) < ((16 : Nat) : Int))) then ((at? tab_gudgeon_crc_known (bitv .and .u32 (bitv .xor .u32 e2 (shrv .u32 (bitv .xor .u32 v0 (IntKind.wrap .u32 e1)) 4)) 15)).bind fun e3 => crc_Step_p8 k (bitv .xor .u32 e3 (shrv .u32 (bitv .xor .u32 e2 (shrv .u32 (bitv .xor .u32 v0 (IntKind.wrap .u32 e1)) 4)) 4)) v1 v2 (IntKind.wrap .i64 (v3 + 1))) else none)) else none)) else some v0)
def crc_Step_u8 : Part := ⟨⟨[], [.val 5 (.int .u32), .val 10 (.slice (.int .u8)), .val 11 (.int .i64), .val 12 (.int .i64)]⟩, [(.exit 0, ⟨[], [.val 5 (.int .u32)]⟩)], fun k x => crc_Step_p8 k x.1 x.2.1 x.2.2.1 x.2.2.2⟩
def crc_Step (k : Nat) (x0 : Int) (x1 : List Int) : Option Int := ((crc_Step_p8 k (bitv .xor .u32 4294967295 x0) x1 ((x1).length : Int) 0).bind fun o4 => some (bitv .xor .u32 4294967295 o4))
def crc_Step_spec : FSpec := ⟨[.imm (.int .u32), .imm (.slice (.int .u8))], [.imm (.int .u32)], fun k x => crc_Step k x.1 x.2⟩
def crc_Step_parts : Parts := fun n => cond (Nat.beq n 8) (some crc_Step_u8) (none)
def crc_Step_env : List (Nat × FSpec) := []
def crc_Of (k : Nat) (x0 : List Int) : Option Int := ((crc_Step k 0 x0).bind fun r1 => some r1)
def crc_Of_spec : FSpec := ⟨[.imm (.slice (.int .u8))], [.imm (.int .u32)], fun k x => crc_Of k x⟩
def crc_Of_parts : Parts := fun _ => none
def crc_Of_env : List (Nat × FSpec) := [(97, crc_Step_spec)]
def crc_Seal (k : Nat) (x0 : List Int) : Option (List Int) := ((crc_Of k x0).bind fun r1 => (bif room (([(IntKind.wrap .u8 (shrv .u32 r1 24)), (IntKind.wrap .u8 (shrv .u32 r1 16)), (IntKind.wrap .u8 (shrv .u32 r1 8)), (IntKind.wrap .u8 r1)] ++ x0)).length 1 then some ([(IntKind.wrap .u8 (shrv .u32 r1 24)), (IntKind.wrap .u8 (shrv .u32 r1 16)), (IntKind.wrap .u8 (shrv .u32 r1 8)), (IntKind.wrap .u8 r1)] ++ x0) else none))
def crc_Seal_spec : FSpec := ⟨[.imm (.slice (.int .u8))], [.own (.int .u8)], fun k x => crc_Seal k x⟩
def crc_Seal_parts : Parts := fun _ => none
def crc_Seal_env : List (Nat × FSpec) := [(85, crc_Of_spec)]
def crc_Open (k : Nat) (x0 : List Int) : Option ((List Int) × Bool) := (bif (decide (((x0).length : Int) < 4)) then some ([], false) else (bif (true && decide ((4 : Int) ≤ ((x0).length : Int)) && decide (((x0).length : Int) ≤ ((x0).length : Int))) then ((crc_Seal k (cut x0 4 ((x0).length : Int))).bind fun r1 => (bif (!((toBytes r1) == (toBytes x0))) then some ([], false) else (bif (true && decide ((4 : Int) ≤ ((x0).length : Int)) && decide (((x0).length : Int) ≤ ((x0).length : Int))) then ((slices_Clone_byte_byte k (cut x0 4 ((x0).length : Int))).bind fun r2 => some (r2, true)) else none))) else none))
def crc_Open_spec : FSpec := ⟨[.imm (.slice (.int .u8))], [.own (.int .u8), .imm .bool], fun k x => crc_Open k x⟩
def crc_Open_parts : Parts := fun _ => none
def crc_Open_env : List (Nat × FSpec) := [(57, crc_Seal_spec), (25, slices_Clone_byte_byte_spec)]
def frame_Next_p22 (k : Nat) (v0 : Int) (v1 : Int) (v2 : List Int) (v3 : Bool) : Option ((Int × Int × List Int) ⊕ (Int × Int × Int)) := (bif (!v3) then some (.inr (0, 0, 5)) else some (.inl (v0, v1, v2)))
def frame_Next_u22 : Part := ⟨⟨[], [.val 4 (.int .i64), .val 6 (.int .i64), .val 7 (.slice (.int .u8)), .val 8 .bool]⟩, [(.normal, ⟨[], [.val 4 (.int .i64), .val 6 (.int .i64), .val 7 (.slice (.int .u8))]⟩), (.ret, ⟨[(3, .nils)], [.val 2 (.int .u8), .val 4 (.int .i64), .val 5 (.int .i64)]⟩)], fun k x => frame_Next_p22 k x.1 x.2.1 x.2.2.1 x.2.2.2⟩
def frame_Next (k : Nat) (x0 : List Int) : Option (Int × (List Int) × Int × Int) := ((frame_size k x0).bind fun r1 => (bif (r1.2.2 != 0) then some (0, [], 0, r1.2.2) else (bif (decide ((IntKind.wrap .i64 (((x0).length : Int) - r1.2.1)) < r1.1)) then some (0, [], 0, 12) else (bif (decide ((0 : Int) ≤ r1.2.1) && decide (r1.2.1 ≤ (IntKind.wrap .i64 (r1.2.1 + r1.1))) && decide ((IntKind.wrap .i64 (r1.2.1 + r1.1)) ≤ ((x0).length : Int))) then ((crc_Open k (cut x0 r1.2.1 (IntKind.wrap .i64 (r1.2.1 + r1.1)))).bind fun r2 => ((frame_Next_p22 k r1.2.1 r1.1 r2.1 r2.2).bind fun o3 => Sum.elim (fun a4 => ((at? a4.2.2 0).bind fun e6 => (bif (true && decide ((1 : Int) ≤ ((a4.2.2).length : Int)) && decide (((a4.2.2).length : Int) ≤ ((a4.2.2).length : Int))) then (bif (((a4.2.2).length : Int) == ((a4.2.2).length : Int)) then some (e6, (cut a4.2.2 1 ((a4.2.2).length : Int)), (IntKind.wrap .i64 (a4.1 + a4.2.1)), 0) else none) else none))) (fun b5 => some (b5.1, [], b5.2.1, b5.2.2)) o3)) else none))))
def frame_Next_spec : FSpec := ⟨[.imm (.slice (.int .u8))], [.imm (.int .u8), .imm (.slice (.int .u8)), .imm (.int .i64), .imm (.int .i64)], fun k x => frame_Next k x⟩
def frame_Next_parts : Parts := fun n => cond (Nat.beq n 22) (some frame_Next_u22) (none)
def frame_Next_env : List (Nat × FSpec) := [(65, frame_size_spec), (66, crc_Open_spec)]
def wire_Read (k : Nat) (x0 : List Int) : Option ((List Int) × Int × Int) := ((slices_Clone_byte_byte k x0).bind fun r1 => some (r1, (0, 0)))
def wire_Read_spec : FSpec := ⟨[.imm (.slice (.int .u8))], [.fresh (.pair (.slice (.int .u8)) (.pair (.int .i64) (.int .i64)))], fun k x => wire_Read k x⟩
def wire_Read_parts : Parts := fun _ => none
def wire_Read_env : List (Nat × FSpec) := [(25, slices_Clone_byte_byte_spec)]
def wire_Reader_fine (k : Nat) (x0 : (List Int) × Int × Int) : Option (Bool × (List Int) × Int × Int) := some ((x0.2.2 == 0), x0)
def wire_Reader_fine_spec : FSpec := ⟨[.lent (.pair (.slice (.int .u8)) (.pair (.int .i64) (.int .i64)))], [.imm .bool, .back (.pair (.slice (.int .u8)) (.pair (.int .i64) (.int .i64)))], fun k x => wire_Reader_fine k x⟩
def wire_Reader_fine_parts : Parts := fun _ => none
def wire_Reader_fine_env : List (Nat × FSpec) := []
def wire_Reader_peek_p8 : Nat → Int → (List Int) → Int → Int → ((List Int) × Int × Int) → Option (((List Int) × Int × Int) ⊕ (Int × Int × (List Int) × Int × Int))
  | 0, _, _, _, _, _ => none
  | k + 1, v0, v1, v2, v3, v4 => (bif (decide (v3 < v2)) then ((at? v1 v3).bind fun e1 => (bif (v3 == 9) then (bif (decide (e1 > 1)) then some (.inl v4) else (bif (e1 == 0) then (bif (decide (v3 > 0)) then some (.inl v4) else (bif decide (0 ≤ (IntKind.wrap .i64 (7 * v3))) then (bif (decide (e1 < 128)) then some (.inr ((bitv .or .u64 v0 (shlv .u64 (IntKind.wrap .u64 (bitv .and .u8 e1 127)) (IntKind.wrap .i64 (7 * v3)))), (IntKind.wrap .i64 (v3 + 1)), v4)) else wire_Reader_peek_p8 k (bitv .or .u64 v0 (shlv .u64 (IntKind.wrap .u64 (bitv .and .u8 e1 127)) (IntKind.wrap .i64 (7 * v3)))) v1 v2 (IntKind.wrap .i64 (v3 + 1)) v4) else none)) else (bif decide (0 ≤ (IntKind.wrap .i64 (7 * v3))) then (bif (decide (e1 < 128)) then some (.inr ((bitv .or .u64 v0 (shlv .u64 (IntKind.wrap .u64 (bitv .and .u8 e1 127)) (IntKind.wrap .i64 (7 * v3)))), (IntKind.wrap .i64 (v3 + 1)), v4)) else wire_Reader_peek_p8 k (bitv .or .u64 v0 (shlv .u64 (IntKind.wrap .u64 (bitv .and .u8 e1 127)) (IntKind.wrap .i64 (7 * v3)))) v1 v2 (IntKind.wrap .i64 (v3 + 1)) v4) else none))) else (bif (e1 == 0) then (bif (decide (v3 > 0)) then some (.inl v4) else (bif decide (0 ≤ (IntKind.wrap .i64 (7 * v3))) then (bif (decide (e1 < 128)) then some (.inr ((bitv .or .u64 v0 (shlv .u64 (IntKind.wrap .u64 (bitv .and .u8 e1 127)) (IntKind.wrap .i64 (7 * v3)))), (IntKind.wrap .i64 (v3 + 1)), v4)) else wire_Reader_peek_p8 k (bitv .or .u64 v0 (shlv .u64 (IntKind.wrap .u64 (bitv .and .u8 e1 127)) (IntKind.wrap .i64 (7 * v3)))) v1 v2 (IntKind.wrap .i64 (v3 + 1)) v4) else none)) else (bif decide (0 ≤ (IntKind.wrap .i64 (7 * v3))) then (bif (decide (e1 < 128)) then some (.inr ((bitv .or .u64 v0 (shlv .u64 (IntKind.wrap .u64 (bitv .and .u8 e1 127)) (IntKind.wrap .i64 (7 * v3)))), (IntKind.wrap .i64 (v3 + 1)), v4)) else wire_Reader_peek_p8 k (bitv .or .u64 v0 (shlv .u64 (IntKind.wrap .u64 (bitv .and .u8 e1 127)) (IntKind.wrap .i64 (7 * v3)))) v1 v2 (IntKind.wrap .i64 (v3 + 1)) v4) else none)))) else some (.inl v4))
def wire_Reader_peek_u8 : Part := ⟨⟨[(0, .ptr 1000000 0)], [.val 4 (.int .u64), .val 15 (.slice (.int .u8)), .val 16 (.int .i64), .val 17 (.int .i64), .cells 1000000 [.dyn (.slice (.int .u8)), .dyn (.int .i64), .dyn (.int .i64)]]⟩, [(.exit 0, ⟨[(0, .ptr 1000000 0)], [.cells 1000000 [.dyn (.slice (.int .u8)), .dyn (.int .i64), .dyn (.int .i64)]]⟩), (.ret, ⟨[(0, .ptr 1000000 0)], [.val 2 (.int .u64), .val 3 (.int .i64), .cells 1000000 [.dyn (.slice (.int .u8)), .dyn (.int .i64), .dyn (.int .i64)]]⟩)], fun k x => wire_Reader_peek_p8 k x.1 x.2.1 x.2.2.1 x.2.2.2.1 x.2.2.2.2⟩
def wire_Reader_peek (k : Nat) (x0 : (List Int) × Int × Int) : Option (Int × Int × (List Int) × Int × Int) := (bif (decide ((0 : Int) ≤ x0.2.1) && decide (x0.2.1 ≤ ((x0.1).length : Int)) && decide (((x0.1).length : Int) ≤ ((x0.1).length : Int))) then ((wire_Reader_peek_p8 k 0 (cut x0.1 x0.2.1 ((x0.1).length : Int)) (((cut x0.1 x0.2.1 ((x0.1).length : Int))).length : Int) 0 x0).bind fun o2 => Sum.elim (fun a3 => some (0, 0, a3)) (fun b4 => some b4) o2) else none)
def wire_Reader_peek_spec : FSpec := ⟨[.lent (.pair (.slice (.int .u8)) (.pair (.int .i64) (.int .i64)))], [.imm (.int .u64), .imm (.int .i64), .back (.pair (.slice (.int .u8)) (.pair (.int .i64) (.int .i64)))], fun k x => wire_Reader_peek k x⟩
def wire_Reader_peek_parts : Parts := fun n => cond (Nat.beq n 8) (some wire_Reader_peek_u8) (none)
def wire_Reader_peek_env : List (Nat × FSpec) := []
def wire_Reader_fail (k : Nat) (x0 : (List Int) × Int × Int) (x1 : Int) : Option ((List Int) × Int × Int) := (bif (x0.2.2 == 0) then some (x0.1, (x0.2.1, x1)) else some x0)
def wire_Reader_fail_spec : FSpec := ⟨[.lent (.pair (.slice (.int .u8)) (.pair (.int .i64) (.int .i64))), .imm (.int .i64)], [.back (.pair (.slice (.int .u8)) (.pair (.int .i64) (.int .i64)))], fun k x => wire_Reader_fail k x.1 x.2⟩
def wire_Reader_fail_parts : Parts := fun _ => none
def wire_Reader_fail_env : List (Nat × FSpec) := []
def wire_Reader_Uvarint (k : Nat) (x0 : (List Int) × Int × Int) : Option (Int × (List Int) × Int × Int) := ((wire_Reader_fine k x0).bind fun r1 => (bif (!r1.1) then some (0, r1.2) else ((wire_Reader_peek k r1.2).bind fun r2 => (bif (r2.2.1 == 0) then ((wire_Reader_fail k r2.2.2 5).bind fun r3 => some (r2.1, (r3.1, ((IntKind.wrap .i64 (r3.2.1 + r2.2.1)), r3.2.2)))) else some (r2.1, (r2.2.2.1, ((IntKind.wrap .i64 (r2.2.2.2.1 + r2.2.1)), r2.2.2.2.2)))))))
def wire_Reader_Uvarint_spec : FSpec := ⟨[.lent (.pair (.slice (.int .u8)) (.pair (.int .i64) (.int .i64)))], [.imm (.int .u64), .back (.pair (.slice (.int .u8)) (.pair (.int .i64) (.int .i64)))], fun k x => wire_Reader_Uvarint k x⟩
def wire_Reader_Uvarint_parts : Parts := fun _ => none
def wire_Reader_Uvarint_env : List (Nat × FSpec) := [(67, wire_Reader_fine_spec), (68, wire_Reader_peek_spec), (69, wire_Reader_fail_spec)]
def wire_Reader_Err (k : Nat) (x0 : (List Int) × Int × Int) : Option (Int × (List Int) × Int × Int) := some (x0.2.2, x0)
def wire_Reader_Err_spec : FSpec := ⟨[.lent (.pair (.slice (.int .u8)) (.pair (.int .i64) (.int .i64)))], [.imm (.int .i64), .back (.pair (.slice (.int .u8)) (.pair (.int .i64) (.int .i64)))], fun k x => wire_Reader_Err k x⟩
def wire_Reader_Err_parts : Parts := fun _ => none
def wire_Reader_Err_env : List (Nat × FSpec) := []
def wire_Reader_Left (k : Nat) (x0 : (List Int) × Int × Int) : Option (Int × (List Int) × Int × Int) := some ((IntKind.wrap .i64 (((x0.1).length : Int) - x0.2.1)), x0)
def wire_Reader_Left_spec : FSpec := ⟨[.lent (.pair (.slice (.int .u8)) (.pair (.int .i64) (.int .i64)))], [.imm (.int .i64), .back (.pair (.slice (.int .u8)) (.pair (.int .i64) (.int .i64)))], fun k x => wire_Reader_Left k x⟩
def wire_Reader_Left_parts : Parts := fun _ => none
def wire_Reader_Left_env : List (Nat × FSpec) := []
def snap_Load_p14 (k : Nat) (v0 : List Int) (v1 : Bool) (v2 : Unit) (v3 : FL) : Option (((List Int) × Unit × FL) ⊕ (Int × Int × Int × Unit × FL)) := (bif (!v1) then some (.inr (0, 0, 4, (), v3)) else some (.inl (v0, (), v3)))
def snap_Load_u14 : Part := ⟨⟨[(0, .ptr 2000000 0)], [.val 10 (.slice (.int .u8)), .val 11 .bool, .cells 2000000 [.stat (.mref 1000000)], .pm 1000000]⟩, [(.normal, ⟨[(0, .ptr 2000000 0)], [.val 10 (.slice (.int .u8)), .cells 2000000 [.stat (.mref 1000000)], .pm 1000000]⟩), (.ret, ⟨[(0, .ptr 2000000 0), (6, .nils)], [.val 4 (.int .u64), .val 5 (.int .u64), .val 7 (.int .i64), .cells 2000000 [.stat (.mref 1000000)], .pm 1000000]⟩)], fun k x => snap_Load_p14 k x.1 x.2.1 x.2.2.1 x.2.2.2⟩
def snap_Load (k : Nat) (x0 : FL) (x1 : Int) : Option (Int × Int × (List Int) × Int × FL) := ((snap_name k x0 x1).bind fun r1 => (bif (!r1.2.1) then some (0, 0, [], 1, r1.2.2) else ((disk_Disk_Read k r1.2.2 r1.1).bind fun r2 => ((snap_Load_p14 k r2.1 r2.2.1 () r2.2.2).bind fun o3 => Sum.elim (fun a4 => ((frame_Next k a4.1).bind fun r6 => ((wire_Read k r6.2.1).bind fun r7 => ((wire_Reader_Uvarint k r7).bind fun r8 => ((wire_Reader_Uvarint k r8.2).bind fun r9 => (bif (r6.2.2.2 != 0) then some (0, 0, [], 5, a4.2.2) else (bif (r6.1 != 3) then some (0, 0, [], 5, a4.2.2) else (bif (r6.2.2.1 != ((a4.1).length : Int)) then some (0, 0, [], 5, a4.2.2) else ((wire_Reader_Err k r9.2).bind fun r10 => (bif (r10.1 != 0) then some (0, 0, [], 5, a4.2.2) else (bif (r8.1 == 0) then some (0, 0, [], 5, a4.2.2) else ((wire_Reader_Left k r10.2).bind fun r11 => (bif (decide (r11.1 > 32768)) then some (0, 0, [], 5, a4.2.2) else ((wire_Reader_Left k r11.2).bind fun r12 => (bif (decide ((0 : Int) ≤ (IntKind.wrap .i64 (((r6.2.1).length : Int) - r12.1))) && decide ((IntKind.wrap .i64 (((r6.2.1).length : Int) - r12.1)) ≤ ((r6.2.1).length : Int)) && decide (((r6.2.1).length : Int) ≤ ((r6.2.1).length : Int))) then ((slices_Clone_byte_byte k (cut r6.2.1 (IntKind.wrap .i64 (((r6.2.1).length : Int) - r12.1)) ((r6.2.1).length : Int))).bind fun r13 => some (r8.1, r9.1, r13, 0, a4.2.2)) else none))))))))))))))) (fun b5 => some (b5.1, b5.2.1, [], b5.2.2.1, b5.2.2.2.2)) o3))))
def snap_Load_spec : FSpec := ⟨[.disk, .imm (.int .i64)], [.imm (.int .u64), .imm (.int .u64), .own (.int .u8), .imm (.int .i64), .backd], fun k x => snap_Load k x.1 x.2⟩
def snap_Load_parts : Parts := fun n => cond (Nat.beq n 14) (some snap_Load_u14) (none)
def snap_Load_env : List (Nat × FSpec) := [(30, snap_name_spec), (43, disk_Disk_Read_spec), (44, frame_Next_spec), (45, wire_Read_spec), (46, wire_Reader_Uvarint_spec), (47, wire_Reader_Err_spec), (48, wire_Reader_Left_spec), (25, slices_Clone_byte_byte_spec)]
def disk_Disk_is_zp (k : Nat) (x0 : Unit) : Option Bool := some false
def disk_Disk_is_zp_spec : FSpec := ⟨[.zd], [.imm .bool], fun k x => disk_Disk_is_zp k x⟩
def disk_Disk_is_zp_parts : Parts := fun _ => none
def disk_Disk_is_zp_env : List (Nat × FSpec) := []
def disk_Disk_find_zp (k : Nat) (x0 : Unit) (x1 : List UInt8) : Option (Unit × Int) := ((disk_Disk_is_zp k ()).bind fun r1 => (bif (!r1) then some ((), 1) else none))
def disk_Disk_find_zp_spec : FSpec := ⟨[.zd, .imm .str], [.nilp, .imm (.int .i64)], fun k x => disk_Disk_find_zp k x.1 x.2⟩
def disk_Disk_find_zp_parts : Parts := fun _ => none
def disk_Disk_find_zp_env : List (Nat × FSpec) := [(53, disk_Disk_is_zp_spec)]
def disk_Disk_Sync_zp (k : Nat) (x0 : Unit) (x1 : List UInt8) : Option Int := ((disk_Disk_find_zp k () x1).bind fun r1 => (bif (r1.2 == 0) then none else some r1.2))
def disk_Disk_Sync_zp_spec : FSpec := ⟨[.zd, .imm .str], [.imm (.int .i64)], fun k x => disk_Disk_Sync_zp k x.1 x.2⟩
def disk_Disk_Sync_zp_parts : Parts := fun _ => none
def disk_Disk_Sync_zp_env : List (Nat × FSpec) := [(59, disk_Disk_find_zp_spec)]
def snap_name_zp (k : Nat) (x0 : Unit) (x1 : Int) : Option ((List UInt8) × Bool) := ((itoaF x1).bind fun r1 => (bif Nat.ble (([115, 110, 97, 112, 45] : List UInt8).length + r1.length) 9223372036854775807 then ((disk_Disk_Sync_zp k () []).bind fun r2 => (bif (r2 != 1) then (bif (decide (x1 ≥ 0)) then some (([115, 110, 97, 112, 45] ++ r1), (decide (x1 ≤ 999))) else some (([115, 110, 97, 112, 45] ++ r1), false)) else some (([115, 110, 97, 112, 45] ++ r1), false))) else none))
def snap_name_zp_spec : FSpec := ⟨[.zd, .imm (.int .i64)], [.imm .str, .imm .bool], fun k x => snap_name_zp k x.1 x.2⟩
def snap_name_zp_parts : Parts := fun _ => none
def snap_name_zp_env : List (Nat × FSpec) := [(56, strconv_Itoa_spec), (35, disk_Disk_Sync_zp_spec)]
def disk_Disk_Read_zp (k : Nat) (x0 : Unit) (x1 : List UInt8) : Option (Unit × Bool) := ((disk_Disk_find_zp k () x1).bind fun r1 => (bif (r1.2 != 0) then some ((), false) else none))
def disk_Disk_Read_zp_spec : FSpec := ⟨[.zd, .imm .str], [.nils, .imm .bool], fun k x => disk_Disk_Read_zp k x.1 x.2⟩
def disk_Disk_Read_zp_parts : Parts := fun _ => none
def disk_Disk_Read_zp_env : List (Nat × FSpec) := [(59, disk_Disk_find_zp_spec)]
def snap_Load_zp (k : Nat) (x0 : Unit) (x1 : Int) : Option (Int × Int × (List Int) × Int) := ((snap_name_zp k () x1).bind fun r1 => (bif (!r1.2) then some (0, 0, [], 1) else ((disk_Disk_Read_zp k () r1.1).bind fun r2 => (bif (!r2.2) then some (0, 0, [], 4) else ((frame_Next k []).bind fun r3 => ((wire_Read k r3.2.1).bind fun r4 => ((wire_Reader_Uvarint k r4).bind fun r5 => ((wire_Reader_Uvarint k r5.2).bind fun r6 => (bif (r3.2.2.2 != 0) then some (0, 0, [], 5) else (bif (r3.1 != 3) then some (0, 0, [], 5) else (bif (r3.2.2.1 != 0) then some (0, 0, [], 5) else ((wire_Reader_Err k r6.2).bind fun r7 => (bif (r7.1 != 0) then some (0, 0, [], 5) else (bif (r5.1 == 0) then some (0, 0, [], 5) else ((wire_Reader_Left k r7.2).bind fun r8 => (bif (decide (r8.1 > 32768)) then some (0, 0, [], 5) else ((wire_Reader_Left k r8.2).bind fun r9 => (bif (decide ((0 : Int) ≤ (IntKind.wrap .i64 (((r3.2.1).length : Int) - r9.1))) && decide ((IntKind.wrap .i64 (((r3.2.1).length : Int) - r9.1)) ≤ ((r3.2.1).length : Int)) && decide (((r3.2.1).length : Int) ≤ ((r3.2.1).length : Int))) then ((slices_Clone_byte_byte k (cut r3.2.1 (IntKind.wrap .i64 (((r3.2.1).length : Int) - r9.1)) ((r3.2.1).length : Int))).bind fun r10 => some (r5.1, r6.1, r10, 0)) else none))))))))))))))))))
def snap_Load_zp_spec : FSpec := ⟨[.zd, .imm (.int .i64)], [.imm (.int .u64), .imm (.int .u64), .own (.int .u8), .imm (.int .i64)], fun k x => snap_Load_zp k x.1 x.2⟩
def snap_Load_zp_parts : Parts := fun _ => none
def snap_Load_zp_env : List (Nat × FSpec) := [(30, snap_name_zp_spec), (43, disk_Disk_Read_zp_spec), (44, frame_Next_spec), (45, wire_Read_spec), (46, wire_Reader_Uvarint_spec), (47, wire_Reader_Err_spec), (48, wire_Reader_Left_spec), (25, slices_Clone_byte_byte_spec)]
def snap_Basket_Missing_p11 : Nat → (List Bool) → Int → Int → (Int × (List (List Int)) × List Bool) → (List Int) → Option (((Int × (List (List Int)) × List Bool) × List Int))
  | 0, _, _, _, _, _ => none
  | k + 1, v0, v1, v2, v3, v4 => (bif (decide (v2 < v1)) then ((at? v0 v2).bind fun e1 => (bif (!e1) then (bif room ((v4 ++ [v2])).length 8 then snap_Basket_Missing_p11 k v0 v1 (IntKind.wrap .i64 (v2 + 1)) v3 (v4 ++ [v2]) else none) else snap_Basket_Missing_p11 k v0 v1 (IntKind.wrap .i64 (v2 + 1)) v3 v4)) else some (v3, v4))
def snap_Basket_Missing_u11 : Part := ⟨⟨[(0, .ptr 1000000 0), (3, .sref 500001)], [.val 11 (.slice .bool), .val 12 (.int .i64), .val 13 (.int .i64), .cells 1000000 [.dyn (.int .i64), .dyn (.slice (.slice (.int .u8))), .dyn (.slice .bool)], .arr 500001 (.int .i64)]⟩, [(.exit 0, ⟨[(0, .ptr 1000000 0), (3, .sref 500001)], [.cells 1000000 [.dyn (.int .i64), .dyn (.slice (.slice (.int .u8))), .dyn (.slice .bool)], .arr 500001 (.int .i64)]⟩)], fun k x => snap_Basket_Missing_p11 k x.1 x.2.1 x.2.2.1 x.2.2.2.1 x.2.2.2.2⟩
def snap_Basket_Missing (k : Nat) (x0 : Int × (List (List Int)) × List Bool) : Option ((List Int) × Int × (List (List Int)) × List Bool) := ((snap_Basket_Missing_p11 k x0.2.2 ((x0.2.2).length : Int) 0 x0 []).bind fun o2 => some (o2.2, o2.1))
def snap_Basket_Missing_spec : FSpec := ⟨[.lent (.pair (.int .i64) (.pair (.slice (.slice (.int .u8))) (.slice .bool)))], [.own (.int .i64), .back (.pair (.int .i64) (.pair (.slice (.slice (.int .u8))) (.slice .bool)))], fun k x => snap_Basket_Missing k x⟩
def snap_Basket_Missing_parts : Parts := fun n => cond (Nat.beq n 11) (some snap_Basket_Missing_u11) (none)
def snap_Basket_Missing_env : List (Nat × FSpec) := []
def snap_Basket_Bytes_p16 : Nat → (List (List Int)) → Int → Int → (Int × (List (List Int)) × List Bool) → (List Int) → Option (((Int × (List (List Int)) × List Bool) × List Int))
  | 0, _, _, _, _, _ => none
  | k + 1, v0, v1, v2, v3, v4 => (bif (decide (v2 < v1)) then ((at? v0 v2).bind fun e2 => (bif (decide ((0 : Int) ≤ (IntKind.wrap .i64 (v2 * 256))) && decide ((IntKind.wrap .i64 (v2 * 256)) ≤ ((v4).length : Int))) then (bif (true && Nat.ble ((e2.take (((v4).length) - (Int.toNat (IntKind.wrap .i64 (v2 * 256)))))).length (((v4).length) - (Int.toNat (IntKind.wrap .i64 (v2 * 256)))) && Nat.ble ((Int.toNat (IntKind.wrap .i64 (v2 * 256))) + (((v4).length) - (Int.toNat (IntKind.wrap .i64 (v2 * 256))))) (v4).length) then snap_Basket_Bytes_p16 k v0 v1 (IntKind.wrap .i64 (v2 + 1)) v3 (splice v4 (Int.toNat (IntKind.wrap .i64 (v2 * 256))) (e2.take (((v4).length) - (Int.toNat (IntKind.wrap .i64 (v2 * 256)))))) else none) else none)) else some (v3, v4))
def snap_Basket_Bytes_u16 : Part := ⟨⟨[(0, .ptr 1000000 0), (4, .sref 500000)], [.val 31 (.slice (.slice (.int .u8))), .val 32 (.int .i64), .val 33 (.int .i64), .cells 1000000 [.dyn (.int .i64), .dyn (.slice (.slice (.int .u8))), .dyn (.slice .bool)], .arr 500000 (.int .u8)]⟩, [(.exit 0, ⟨[(0, .ptr 1000000 0), (4, .sref 500000)], [.cells 1000000 [.dyn (.int .i64), .dyn (.slice (.slice (.int .u8))), .dyn (.slice .bool)], .arr 500000 (.int .u8)]⟩)], fun k x => snap_Basket_Bytes_p16 k x.1 x.2.1 x.2.2.1 x.2.2.2.1 x.2.2.2.2⟩
def snap_Basket_Bytes (k : Nat) (x0 : Int × (List (List Int)) × List Bool) : Option ((List Int) × Bool × Int × (List (List Int)) × List Bool) := (bif (((x0.2.1).length : Int) == 0) then some ([], false, x0) else ((snap_Basket_Missing k x0).bind fun r1 => (bif (decide (((r1.1).length : Int) > 0)) then some ([], false, r1.2) else (bif (r1.2.1 == r1.2.1 && decide (0 ≤ r1.2.1) && room (Int.toNat r1.2.1) 1) then ((snap_Basket_Bytes_p16 k r1.2.2.1 ((r1.2.2.1).length : Int) 0 r1.2 (List.replicate (Int.toNat r1.2.1) 0)).bind fun o3 => some (o3.2, true, o3.1)) else none))))
def snap_Basket_Bytes_spec : FSpec := ⟨[.lent (.pair (.int .i64) (.pair (.slice (.slice (.int .u8))) (.slice .bool)))], [.own (.int .u8), .imm .bool, .back (.pair (.int .i64) (.pair (.slice (.slice (.int .u8))) (.slice .bool)))], fun k x => snap_Basket_Bytes k x⟩
def snap_Basket_Bytes_parts : Parts := fun n => cond (Nat.beq n 16) (some snap_Basket_Bytes_u16) (none)
def snap_Basket_Bytes_env : List (Nat × FSpec) := [(19, snap_Basket_Missing_spec)]
def wire_own (k : Nat) (x0 : List Int) : Option (List Int) := (bif (true && decide ((0 : Int) ≤ ((x0).length : Int)) && decide (((x0).length : Int) ≤ ((x0).length : Int))) then (bif (((x0).length : Int) == ((x0).length : Int)) then some (cut x0 0 ((x0).length : Int)) else none) else none)
def wire_own_spec : FSpec := ⟨[.imm (.slice (.int .u8))], [.full (.int .u8)], fun k x => wire_own k x⟩
def wire_own_parts : Parts := fun _ => none
def wire_own_env : List (Nat × FSpec) := []
def wire_Uvarint_p6 : Nat → Int → (List Int) → Option ((Int × List Int))
  | 0, _, _ => none
  | k + 1, v0, v1 => (bif (decide (v0 ≥ 128)) then (bif room ((v1 ++ [(bitv .or .u8 (IntKind.wrap .u8 v0) 128)])).length 1 then wire_Uvarint_p6 k (shrv .u64 v0 7) (v1 ++ [(bitv .or .u8 (IntKind.wrap .u8 v0) 128)]) else none) else some (v0, v1))
def wire_Uvarint_u6 : Part := ⟨⟨[(0, .sref 500001)], [.val 1 (.int .u64), .app 500001 (.int .u8)]⟩, [(.exit 0, ⟨[(0, .sref 500001)], [.val 1 (.int .u64), .app 500001 (.int .u8)]⟩)], fun k x => wire_Uvarint_p6 k x.1 x.2⟩
def wire_Uvarint (k : Nat) (x0 : List Int) (x1 : Int) : Option (List Int) := ((wire_own k x0).bind fun r1 => ((wire_Uvarint_p6 k x1 r1).bind fun o2 => (bif room ((o2.2 ++ [(IntKind.wrap .u8 o2.1)])).length 1 then some (o2.2 ++ [(IntKind.wrap .u8 o2.1)]) else none)))
def wire_Uvarint_spec : FSpec := ⟨[.imm (.slice (.int .u8)), .imm (.int .u64)], [.own (.int .u8)], fun k x => wire_Uvarint k x.1 x.2⟩
def wire_Uvarint_parts : Parts := fun n => cond (Nat.beq n 6) (some wire_Uvarint_u6) (none)
def wire_Uvarint_env : List (Nat × FSpec) := [(58, wire_own_spec)]
def frame_Put (k : Nat) (x0 : Int) (x1 : List Int) : Option ((List Int) × Int) := (bif (decide (((x1).length : Int) > 1048571)) then some ([], 3) else (bif room (([x0] ++ x1)).length 1 then ((crc_Seal k ([x0] ++ x1)).bind fun r1 => ((wire_Uvarint k [] (IntKind.wrap .u64 ((r1).length : Int))).bind fun r2 => (bif room ((r2 ++ r1)).length 1 then some ((r2 ++ r1), 0) else none))) else none))
def frame_Put_spec : FSpec := ⟨[.imm (.int .u8), .imm (.slice (.int .u8))], [.own (.int .u8), .imm (.int .i64)], fun k x => frame_Put k x.1 x.2⟩
def frame_Put_parts : Parts := fun _ => none
def frame_Put_env : List (Nat × FSpec) := [(57, crc_Seal_spec), (32, wire_Uvarint_spec)]
def disk_Disk_Cut (k : Nat) (x0 : FL) (x1 : List UInt8) (x2 : Int) : Option (Int × FL) := ((disk_Disk_find k x0 x1).bind fun r1 => ((r1.1.2).elim ((bif (r1.2 != 0) then some (r1.2, r1.1.1) else (bif (decide (x2 < 0)) then some (1, r1.1.1) else none))) fun k2 => ((mfind (kt := .str) k2 r1.1.1).bind fun x3 => (bif (r1.2 != 0) then some (r1.2, (mset (kt := .str) k2 (x3.1, x3.2) r1.1.1)) else (bif (decide (x2 < 0)) then some (1, (mset (kt := .str) k2 (x3.1, x3.2) r1.1.1)) else (bif (decide (x2 > ((x3.1).length : Int))) then some (1, (mset (kt := .str) k2 (x3.1, x3.2) r1.1.1)) else (bif (decide ((0 : Int) ≤ x2) && decide (x2 ≤ ((x3.1).length : Int))) then ((slices_Clone_byte_byte k (cut x3.1 0 x2)).bind fun r4 => some (0, (mset (kt := .str) k2 (r4, (intMin x3.2 x2)) r1.1.1))) else none)))))))
def disk_Disk_Cut_spec : FSpec := ⟨[.disk, .imm .str, .imm (.int .i64)], [.imm (.int .i64), .backd], fun k x => disk_Disk_Cut k x.1 x.2.1 x.2.2⟩
def disk_Disk_Cut_parts : Parts := fun _ => none
def disk_Disk_Cut_env : List (Nat × FSpec) := [(59, disk_Disk_find_spec), (25, slices_Clone_byte_byte_spec)]
def strings_Trim_spec : FSpec := trimSpec
def disk_may (k : Nat) (x0 : List UInt8) : Option Bool := (bif (decide (((x0).length : Int) ≥ 1)) then (bif (decide (((x0).length : Int) ≤ 32)) then ((trimF x0 [97, 98, 99, 100, 101, 102, 103, 104, 105, 106, 107, 108, 109, 110, 111, 112, 113, 114, 115, 116, 117, 118, 119, 120, 121, 122, 48, 49, 50, 51, 52, 53, 54, 55, 56, 57, 46, 45]).bind fun r1 => some (r1 == [])) else some false) else some false)
def disk_may_spec : FSpec := ⟨[.imm .str], [.imm .bool], fun k x => disk_may k x⟩
def disk_may_parts : Parts := fun _ => none
def disk_may_env : List (Nat × FSpec) := [(49, strings_Trim_spec)]
def disk_Disk_Append (k : Nat) (x0 : FL) (x1 : List UInt8) (x2 : List Int) : Option (Int × FL) := ((disk_Disk_is k x0).bind fun r1 => (bif (!r1.1) then some (1, r1.2) else ((disk_may k x1).bind fun r2 => (bif (!r2) then some (1, r1.2) else ((mfind (kt := .str) x1 r1.2).elim ((bif (decide (((r1.2).length : Int) ≥ 64)) then some (2, r1.2) else (bif (decide (((x2).length : Int) > 65536)) then some (2, r1.2) else (bif room (x2).length 1 then some (0, (mset (kt := .str) x1 (x2, 0) r1.2)) else none)))) fun x3 => (bif (decide (((x2).length : Int) > (IntKind.wrap .i64 (65536 - ((x3.1).length : Int))))) then some (2, (mset (kt := .str) x1 (x3.1, x3.2) r1.2)) else (bif room ((x3.1 ++ x2)).length 1 then (bif ((x1 == x1) && true) then some (0, (mset (kt := .str) x1 ((x3.1 ++ x2), x3.2) r1.2)) else none) else none)))))))
def disk_Disk_Append_spec : FSpec := ⟨[.disk, .imm .str, .imm (.slice (.int .u8))], [.imm (.int .i64), .backd], fun k x => disk_Disk_Append k x.1 x.2.1 x.2.2⟩
def disk_Disk_Append_parts : Parts := fun _ => none
def disk_Disk_Append_env : List (Nat × FSpec) := [(53, disk_Disk_is_spec), (24, disk_may_spec)]
def disk_Disk_Rename (k : Nat) (x0 : FL) (x1 : List UInt8) (x2 : List UInt8) : Option (Int × FL) := ((disk_Disk_find k x0 x1).bind fun r1 => ((r1.1.2).elim ((bif (r1.2 != 0) then some (r1.2, r1.1.1) else ((disk_may k x2).bind fun r4 => (bif (!r4) then some (1, r1.1.1) else none)))) fun k2 => ((mfind (kt := .str) k2 r1.1.1).bind fun x3 => (bif (r1.2 != 0) then some (r1.2, (mset (kt := .str) k2 (x3.1, x3.2) r1.1.1)) else ((disk_may k x2).bind fun r5 => (bif (!r5) then some (1, (mset (kt := .str) k2 (x3.1, x3.2) r1.1.1)) else (bif (x1 == k2) then some (0, (mset (kt := .str) x2 (x3.1, x3.2) (mdel (kt := .str) x1 r1.1.1))) else none)))))))
def disk_Disk_Rename_spec : FSpec := ⟨[.disk, .imm .str, .imm .str], [.imm (.int .i64), .backd], fun k x => disk_Disk_Rename k x.1 x.2.1 x.2.2⟩
def disk_Disk_Rename_parts : Parts := fun _ => none
def disk_Disk_Rename_env : List (Nat × FSpec) := [(59, disk_Disk_find_spec), (24, disk_may_spec)]
def snap_Save (k : Nat) (x0 : FL) (x1 : Int) (x2 : Int) (x3 : Int) (x4 : List Int) : Option (Int × FL) := ((snap_name k x0 x1).bind fun r1 => (bif (!r1.2.1) then some (1, r1.2.2) else (bif (x2 == 0) then some (1, r1.2.2) else (bif (decide (((x4).length : Int) > 32768)) then some (1, r1.2.2) else ((wire_Uvarint k [] x2).bind fun r2 => ((wire_Uvarint k r2 x3).bind fun r3 => (bif room ((r3 ++ x4)).length 1 then ((frame_Put k 3 (r3 ++ x4)).bind fun r4 => (bif Nat.ble (r1.1.length + ([46, 110, 101, 119] : List UInt8).length) 9223372036854775807 then ((disk_Disk_Cut k r1.2.2 (r1.1 ++ [46, 110, 101, 119]) 0).bind fun r5 => ((disk_Disk_Append k r5.2 (r1.1 ++ [46, 110, 101, 119]) r4.1).bind fun r6 => (bif (r6.1 != 0) then some (2, r6.2) else ((disk_Disk_Sync k r6.2 (r1.1 ++ [46, 110, 101, 119])).bind fun r7 => ((disk_Disk_Rename k r7.2 (r1.1 ++ [46, 110, 101, 119]) r1.1).bind fun r8 => some (0, r8.2)))))) else none)) else none)))))))
def snap_Save_spec : FSpec := ⟨[.disk, .imm (.int .i64), .imm (.int .u64), .imm (.int .u64), .imm (.slice (.int .u8))], [.imm (.int .i64), .backd], fun k x => snap_Save k x.1 x.2.1 x.2.2.1 x.2.2.2.1 x.2.2.2.2⟩
def snap_Save_parts : Parts := fun _ => none
def snap_Save_env : List (Nat × FSpec) := [(30, snap_name_spec), (32, wire_Uvarint_spec), (31, frame_Put_spec), (33, disk_Disk_Cut_spec), (34, disk_Disk_Append_spec), (35, disk_Disk_Sync_spec), (36, disk_Disk_Rename_spec)]
def disk_Disk_Cut_zp (k : Nat) (x0 : Unit) (x1 : List UInt8) (x2 : Int) : Option Int := ((disk_Disk_find_zp k () x1).bind fun r1 => (bif (r1.2 != 0) then some r1.2 else (bif (decide (x2 < 0)) then some 1 else none)))
def disk_Disk_Cut_zp_spec : FSpec := ⟨[.zd, .imm .str, .imm (.int .i64)], [.imm (.int .i64)], fun k x => disk_Disk_Cut_zp k x.1 x.2.1 x.2.2⟩
def disk_Disk_Cut_zp_parts : Parts := fun _ => none
def disk_Disk_Cut_zp_env : List (Nat × FSpec) := [(59, disk_Disk_find_zp_spec)]
def disk_Disk_Append_zp (k : Nat) (x0 : Unit) (x1 : List UInt8) (x2 : List Int) : Option Int := ((disk_Disk_is_zp k ()).bind fun r1 => (bif (!r1) then some 1 else ((disk_may k x1).bind fun r2 => (bif (!r2) then some 1 else none))))
def disk_Disk_Append_zp_spec : FSpec := ⟨[.zd, .imm .str, .imm (.slice (.int .u8))], [.imm (.int .i64)], fun k x => disk_Disk_Append_zp k x.1 x.2.1 x.2.2⟩
def disk_Disk_Append_zp_parts : Parts := fun _ => none
def disk_Disk_Append_zp_env : List (Nat × FSpec) := [(53, disk_Disk_is_zp_spec), (24, disk_may_spec)]
def disk_Disk_Rename_zp (k : Nat) (x0 : Unit) (x1 : List UInt8) (x2 : List UInt8) : Option Int := ((disk_Disk_find_zp k () x1).bind fun r1 => (bif (r1.2 != 0) then some r1.2 else ((disk_may k x2).bind fun r2 => (bif (!r2) then some 1 else none))))
def disk_Disk_Rename_zp_spec : FSpec := ⟨[.zd, .imm .str, .imm .str], [.imm (.int .i64)], fun k x => disk_Disk_Rename_zp k x.1 x.2.1 x.2.2⟩
def disk_Disk_Rename_zp_parts : Parts := fun _ => none
def disk_Disk_Rename_zp_env : List (Nat × FSpec) := [(59, disk_Disk_find_zp_spec), (24, disk_may_spec)]
def snap_Save_zp (k : Nat) (x0 : Unit) (x1 : Int) (x2 : Int) (x3 : Int) (x4 : List Int) : Option Int := ((snap_name_zp k () x1).bind fun r1 => (bif (!r1.2) then some 1 else (bif (x2 == 0) then some 1 else (bif (decide (((x4).length : Int) > 32768)) then some 1 else ((wire_Uvarint k [] x2).bind fun r2 => ((wire_Uvarint k r2 x3).bind fun r3 => (bif room ((r3 ++ x4)).length 1 then ((frame_Put k 3 (r3 ++ x4)).bind fun r4 => (bif Nat.ble (r1.1.length + ([46, 110, 101, 119] : List UInt8).length) 9223372036854775807 then ((disk_Disk_Cut_zp k () (r1.1 ++ [46, 110, 101, 119]) 0).bind fun r5 => ((disk_Disk_Append_zp k () (r1.1 ++ [46, 110, 101, 119]) r4.1).bind fun r6 => (bif (r6 != 0) then some 2 else ((disk_Disk_Sync_zp k () (r1.1 ++ [46, 110, 101, 119])).bind fun r7 => ((disk_Disk_Rename_zp k () (r1.1 ++ [46, 110, 101, 119]) r1.1).bind fun r8 => some 0))))) else none)) else none)))))))
def snap_Save_zp_spec : FSpec := ⟨[.zd, .imm (.int .i64), .imm (.int .u64), .imm (.int .u64), .imm (.slice (.int .u8))], [.imm (.int .i64)], fun k x => snap_Save_zp k x.1 x.2.1 x.2.2.1 x.2.2.2.1 x.2.2.2.2⟩
def snap_Save_zp_parts : Parts := fun _ => none
def snap_Save_zp_env : List (Nat × FSpec) := [(30, snap_name_zp_spec), (32, wire_Uvarint_spec), (31, frame_Put_spec), (33, disk_Disk_Cut_zp_spec), (34, disk_Disk_Append_zp_spec), (35, disk_Disk_Sync_zp_spec), (36, disk_Disk_Rename_zp_spec)]
def slices_Equal_byte_byte_p14 : Nat → (List Int) → (List Int) → Int → Int → Option (Unit ⊕ Bool)
  | 0, _, _, _, _ => none
  | k + 1, v0, v1, v2, v3 => (bif (decide (v3 < v2)) then ((at? v0 v3).bind fun e1 => ((at? v1 v3).bind fun e2 => (bif (e1 != e2) then some (.inr false) else slices_Equal_byte_byte_p14 k v0 v1 v2 (IntKind.wrap .i64 (v3 + 1))))) else some (.inl ()))
def slices_Equal_byte_byte_u14 : Part := ⟨⟨[], [.val 0 (.slice (.int .u8)), .val 1 (.slice (.int .u8)), .val 12 (.int .i64), .val 13 (.int .i64)]⟩, [(.exit 0, ⟨[], []⟩), (.ret, ⟨[], [.val 4 .bool]⟩)], fun k x => slices_Equal_byte_byte_p14 k x.1 x.2.1 x.2.2.1 x.2.2.2⟩
def slices_Equal_byte_byte (k : Nat) (x0 : List Int) (x1 : List Int) : Option Bool := (bif (((x0).length : Int) != ((x1).length : Int)) then some false else ((slices_Equal_byte_byte_p14 k x0 x1 ((x0).length : Int) 0).bind fun o3 => Sum.elim (fun a4 => some true) (fun b5 => some b5) o3))
def slices_Equal_byte_byte_spec : FSpec := ⟨[.imm (.slice (.int .u8)), .imm (.slice (.int .u8))], [.imm .bool], fun k x => slices_Equal_byte_byte k x.1 x.2⟩
def slices_Equal_byte_byte_parts : Parts := fun n => cond (Nat.beq n 14) (some slices_Equal_byte_byte_u14) (none)
def slices_Equal_byte_byte_env : List (Nat × FSpec) := []
def snap_Basket_Put (k : Nat) (x0 : Int × (List (List Int)) × List Bool) (x1 : Int) (x2 : List Int) : Option (Int × Int × (List (List Int)) × List Bool) := (bif (decide (x1 < 0)) then some (1, x0) else (bif (decide (x1 ≥ ((x0.2.1).length : Int))) then some (1, x0) else (bif (((x2).length : Int) != (intMin 256 (IntKind.wrap .i64 (x0.1 - (IntKind.wrap .i64 (x1 * 256)))))) then some (1, x0) else ((at? x0.2.2 x1).bind fun e1 => (bif e1 then ((at? x0.2.1 x1).bind fun e2 => ((slices_Equal_byte_byte k e2 x2).bind fun r3 => (bif (!r3) then some (6, x0) else ((slices_Clone_byte_byte k x2).bind fun r4 => ((at? x0.2.1 x1).bind fun e5 => none))))) else ((slices_Clone_byte_byte k x2).bind fun r6 => ((at? x0.2.1 x1).bind fun e7 => none)))))))
def snap_Basket_Put_spec : FSpec := ⟨[.lent (.pair (.int .i64) (.pair (.slice (.slice (.int .u8))) (.slice .bool))), .imm (.int .i64), .imm (.slice (.int .u8))], [.imm (.int .i64), .back (.pair (.int .i64) (.pair (.slice (.slice (.int .u8))) (.slice .bool)))], fun k x => snap_Basket_Put k x.1 x.2.1 x.2.2⟩
def snap_Basket_Put_parts : Parts := fun _ => none
def snap_Basket_Put_env : List (Nat × FSpec) := [(42, slices_Equal_byte_byte_spec), (25, slices_Clone_byte_byte_spec)]
def disk_Disk_is_np (k : Nat) (x0 : Unit) : Option Bool := some false
def disk_Disk_is_np_spec : FSpec := ⟨[.nilp], [.imm .bool], fun k x => disk_Disk_is_np k x⟩
def disk_Disk_is_np_parts : Parts := fun _ => none
def disk_Disk_is_np_env : List (Nat × FSpec) := []
def disk_Disk_find_np (k : Nat) (x0 : Unit) (x1 : List UInt8) : Option (Unit × Int) := ((disk_Disk_is_np k ()).bind fun r1 => (bif (!r1) then some ((), 1) else none))
def disk_Disk_find_np_spec : FSpec := ⟨[.nilp, .imm .str], [.nilp, .imm (.int .i64)], fun k x => disk_Disk_find_np k x.1 x.2⟩
def disk_Disk_find_np_parts : Parts := fun _ => none
def disk_Disk_find_np_env : List (Nat × FSpec) := [(53, disk_Disk_is_np_spec)]
def disk_Disk_Sync_np (k : Nat) (x0 : Unit) (x1 : List UInt8) : Option Int := ((disk_Disk_find_np k () x1).bind fun r1 => (bif (r1.2 == 0) then none else some r1.2))
def disk_Disk_Sync_np_spec : FSpec := ⟨[.nilp, .imm .str], [.imm (.int .i64)], fun k x => disk_Disk_Sync_np k x.1 x.2⟩
def disk_Disk_Sync_np_parts : Parts := fun _ => none
def disk_Disk_Sync_np_env : List (Nat × FSpec) := [(59, disk_Disk_find_np_spec)]
def snap_name_np (k : Nat) (x0 : Unit) (x1 : Int) : Option ((List UInt8) × Bool) := ((itoaF x1).bind fun r1 => (bif Nat.ble (([115, 110, 97, 112, 45] : List UInt8).length + r1.length) 9223372036854775807 then ((disk_Disk_Sync_np k () []).bind fun r2 => (bif (r2 != 1) then (bif (decide (x1 ≥ 0)) then some (([115, 110, 97, 112, 45] ++ r1), (decide (x1 ≤ 999))) else some (([115, 110, 97, 112, 45] ++ r1), false)) else some (([115, 110, 97, 112, 45] ++ r1), false))) else none))
def snap_name_np_spec : FSpec := ⟨[.nilp, .imm (.int .i64)], [.imm .str, .imm .bool], fun k x => snap_name_np k x.1 x.2⟩
def snap_name_np_parts : Parts := fun _ => none
def snap_name_np_env : List (Nat × FSpec) := [(56, strconv_Itoa_spec), (35, disk_Disk_Sync_np_spec)]
def disk_Disk_Read_np (k : Nat) (x0 : Unit) (x1 : List UInt8) : Option (Unit × Bool) := ((disk_Disk_find_np k () x1).bind fun r1 => (bif (r1.2 != 0) then some ((), false) else none))
def disk_Disk_Read_np_spec : FSpec := ⟨[.nilp, .imm .str], [.nils, .imm .bool], fun k x => disk_Disk_Read_np k x.1 x.2⟩
def disk_Disk_Read_np_parts : Parts := fun _ => none
def disk_Disk_Read_np_env : List (Nat × FSpec) := [(59, disk_Disk_find_np_spec)]
def snap_Load_np (k : Nat) (x0 : Unit) (x1 : Int) : Option (Int × Int × (List Int) × Int) := ((snap_name_np k () x1).bind fun r1 => (bif (!r1.2) then some (0, 0, [], 1) else ((disk_Disk_Read_np k () r1.1).bind fun r2 => (bif (!r2.2) then some (0, 0, [], 4) else ((frame_Next k []).bind fun r3 => ((wire_Read k r3.2.1).bind fun r4 => ((wire_Reader_Uvarint k r4).bind fun r5 => ((wire_Reader_Uvarint k r5.2).bind fun r6 => (bif (r3.2.2.2 != 0) then some (0, 0, [], 5) else (bif (r3.1 != 3) then some (0, 0, [], 5) else (bif (r3.2.2.1 != 0) then some (0, 0, [], 5) else ((wire_Reader_Err k r6.2).bind fun r7 => (bif (r7.1 != 0) then some (0, 0, [], 5) else (bif (r5.1 == 0) then some (0, 0, [], 5) else ((wire_Reader_Left k r7.2).bind fun r8 => (bif (decide (r8.1 > 32768)) then some (0, 0, [], 5) else ((wire_Reader_Left k r8.2).bind fun r9 => (bif (decide ((0 : Int) ≤ (IntKind.wrap .i64 (((r3.2.1).length : Int) - r9.1))) && decide ((IntKind.wrap .i64 (((r3.2.1).length : Int) - r9.1)) ≤ ((r3.2.1).length : Int)) && decide (((r3.2.1).length : Int) ≤ ((r3.2.1).length : Int))) then ((slices_Clone_byte_byte k (cut r3.2.1 (IntKind.wrap .i64 (((r3.2.1).length : Int) - r9.1)) ((r3.2.1).length : Int))).bind fun r10 => some (r5.1, r6.1, r10, 0)) else none))))))))))))))))))
def snap_Load_np_spec : FSpec := ⟨[.nilp, .imm (.int .i64)], [.imm (.int .u64), .imm (.int .u64), .own (.int .u8), .imm (.int .i64)], fun k x => snap_Load_np k x.1 x.2⟩
def snap_Load_np_parts : Parts := fun _ => none
def snap_Load_np_env : List (Nat × FSpec) := [(30, snap_name_np_spec), (43, disk_Disk_Read_np_spec), (44, frame_Next_spec), (45, wire_Read_spec), (46, wire_Reader_Uvarint_spec), (47, wire_Reader_Err_spec), (48, wire_Reader_Left_spec), (25, slices_Clone_byte_byte_spec)]
def snap_Basket_Bytes_np (k : Nat) (x0 : Unit) : Option (Unit × Bool) := some ((), false)
def snap_Basket_Bytes_np_spec : FSpec := ⟨[.nilp], [.nils, .imm .bool], fun k x => snap_Basket_Bytes_np k x⟩
def snap_Basket_Bytes_np_parts : Parts := fun _ => none
def snap_Basket_Bytes_np_env : List (Nat × FSpec) := []
def disk_Disk_Cut_np (k : Nat) (x0 : Unit) (x1 : List UInt8) (x2 : Int) : Option Int := ((disk_Disk_find_np k () x1).bind fun r1 => (bif (r1.2 != 0) then some r1.2 else (bif (decide (x2 < 0)) then some 1 else none)))
def disk_Disk_Cut_np_spec : FSpec := ⟨[.nilp, .imm .str, .imm (.int .i64)], [.imm (.int .i64)], fun k x => disk_Disk_Cut_np k x.1 x.2.1 x.2.2⟩
def disk_Disk_Cut_np_parts : Parts := fun _ => none
def disk_Disk_Cut_np_env : List (Nat × FSpec) := [(59, disk_Disk_find_np_spec)]
def disk_Disk_Append_np (k : Nat) (x0 : Unit) (x1 : List UInt8) (x2 : List Int) : Option Int := ((disk_Disk_is_np k ()).bind fun r1 => (bif (!r1) then some 1 else ((disk_may k x1).bind fun r2 => (bif (!r2) then some 1 else none))))
def disk_Disk_Append_np_spec : FSpec := ⟨[.nilp, .imm .str, .imm (.slice (.int .u8))], [.imm (.int .i64)], fun k x => disk_Disk_Append_np k x.1 x.2.1 x.2.2⟩
def disk_Disk_Append_np_parts : Parts := fun _ => none
def disk_Disk_Append_np_env : List (Nat × FSpec) := [(53, disk_Disk_is_np_spec), (24, disk_may_spec)]
def disk_Disk_Rename_np (k : Nat) (x0 : Unit) (x1 : List UInt8) (x2 : List UInt8) : Option Int := ((disk_Disk_find_np k () x1).bind fun r1 => (bif (r1.2 != 0) then some r1.2 else ((disk_may k x2).bind fun r2 => (bif (!r2) then some 1 else none))))
def disk_Disk_Rename_np_spec : FSpec := ⟨[.nilp, .imm .str, .imm .str], [.imm (.int .i64)], fun k x => disk_Disk_Rename_np k x.1 x.2.1 x.2.2⟩
def disk_Disk_Rename_np_parts : Parts := fun _ => none
def disk_Disk_Rename_np_env : List (Nat × FSpec) := [(59, disk_Disk_find_np_spec), (24, disk_may_spec)]
def snap_Save_np (k : Nat) (x0 : Unit) (x1 : Int) (x2 : Int) (x3 : Int) (x4 : List Int) : Option Int := ((snap_name_np k () x1).bind fun r1 => (bif (!r1.2) then some 1 else (bif (x2 == 0) then some 1 else (bif (decide (((x4).length : Int) > 32768)) then some 1 else ((wire_Uvarint k [] x2).bind fun r2 => ((wire_Uvarint k r2 x3).bind fun r3 => (bif room ((r3 ++ x4)).length 1 then ((frame_Put k 3 (r3 ++ x4)).bind fun r4 => (bif Nat.ble (r1.1.length + ([46, 110, 101, 119] : List UInt8).length) 9223372036854775807 then ((disk_Disk_Cut_np k () (r1.1 ++ [46, 110, 101, 119]) 0).bind fun r5 => ((disk_Disk_Append_np k () (r1.1 ++ [46, 110, 101, 119]) r4.1).bind fun r6 => (bif (r6 != 0) then some 2 else ((disk_Disk_Sync_np k () (r1.1 ++ [46, 110, 101, 119])).bind fun r7 => ((disk_Disk_Rename_np k () (r1.1 ++ [46, 110, 101, 119]) r1.1).bind fun r8 => some 0))))) else none)) else none)))))))
def snap_Save_np_spec : FSpec := ⟨[.nilp, .imm (.int .i64), .imm (.int .u64), .imm (.int .u64), .imm (.slice (.int .u8))], [.imm (.int .i64)], fun k x => snap_Save_np k x.1 x.2.1 x.2.2.1 x.2.2.2.1 x.2.2.2.2⟩
def snap_Save_np_parts : Parts := fun _ => none
def snap_Save_np_env : List (Nat × FSpec) := [(30, snap_name_np_spec), (32, wire_Uvarint_spec), (31, frame_Put_spec), (33, disk_Disk_Cut_np_spec), (34, disk_Disk_Append_np_spec), (35, disk_Disk_Sync_np_spec), (36, disk_Disk_Rename_np_spec)]
def snap_Basket_Put_np (k : Nat) (x0 : Unit) (x1 : Int) (x2 : List Int) : Option Int := some 1
def snap_Basket_Put_np_spec : FSpec := ⟨[.nilp, .imm (.int .i64), .imm (.slice (.int .u8))], [.imm (.int .i64)], fun k x => snap_Basket_Put_np k x.1 x.2.1 x.2.2⟩
def snap_Basket_Put_np_parts : Parts := fun _ => none
def snap_Basket_Put_np_env : List (Nat × FSpec) := []
def snap_Basket_Missing_np (k : Nat) (x0 : Unit) : Option Unit := some ()
def snap_Basket_Missing_np_spec : FSpec := ⟨[.nilp], [.nils], fun k x => snap_Basket_Missing_np k x⟩
def snap_Basket_Missing_np_parts : Parts := fun _ => none
def snap_Basket_Missing_np_env : List (Nat × FSpec) := []
def snap_Count (k : Nat) (x0 : Int) : Option Int := (bif (decide (x0 < 0)) then some 0 else some (intMax 1 (IntKind.wrap .i64 ((IntKind.wrap .i64 (Int.tdiv x0 256)) + (intMin 1 (Int.tmod x0 256))))))
def snap_Count_spec : FSpec := ⟨[.imm (.int .i64)], [.imm (.int .i64)], fun k x => snap_Count k x⟩
def snap_Count_parts : Parts := fun _ => none
def snap_Count_env : List (Nat × FSpec) := []
def snap_Gather (k : Nat) (x0 : Int) : Option ((Option (Int × (List (List Int)) × List Bool)) × Int) := (bif (decide (x0 < 0)) then some (none, 1) else (bif (decide (x0 > 32768)) then some (none, 1) else ((snap_Count k x0).bind fun r1 => (bif (r1 == r1 && decide (0 ≤ r1) && room (Int.toNat r1) 24) then (bif (r1 == r1 && decide (0 ≤ r1) && room (Int.toNat r1) 1) then some ((some (x0, ((List.replicate (Int.toNat r1) []), (List.replicate (Int.toNat r1) false)))), 0) else none) else none))))
def snap_Gather_spec : FSpec := ⟨[.imm (.int .i64)], [.ofresh (.pair (.int .i64) (.pair (.slice (.slice (.int .u8))) (.slice .bool))), .imm (.int .i64)], fun k x => snap_Gather k x⟩
def snap_Gather_parts : Parts := fun _ => none
def snap_Gather_env : List (Nat × FSpec) := [(23, snap_Count_spec)]
def disk_New (k : Nat) : Option FL := some ([] : FL)
def disk_New_spec : FSpec := ⟨[], [.freshd], fun k x => disk_New k⟩
def disk_New_parts : Parts := fun _ => none
def disk_New_env : List (Nat × FSpec) := []
def maps_Keys_map_string_disk_file_string_disk_file_spec : FSpec := keysSpec 83
def slices_Sorted_string_spec : FSpec := seqSpec 83
def disk_Disk_names (k : Nat) (x0 : FL) : Option ((List (List UInt8)) × FL) := ((disk_Disk_is k x0).bind fun r1 => (bif (!r1.1) then some ([], r1.2) else ((seqF r1.2).bind fun z2 => some (z2, r1.2))))
def disk_Disk_names_spec : FSpec := ⟨[.disk], [.own .str, .backd], fun k x => disk_Disk_names k x⟩
def disk_Disk_names_parts : Parts := fun _ => none
def disk_Disk_names_env : List (Nat × FSpec) := [(53, disk_Disk_is_spec), (55, maps_Keys_map_string_disk_file_string_disk_file_spec), (54, slices_Sorted_string_spec)]
def disk_Disk_Crash_p3 : Nat → (List Int) → Int → Int → Unit → (List (List UInt8)) → FL → Option ((Unit × FL))
  | 0, _, _, _, _, _, _ => none
  | k + 1, v0, v1, v2, v3, v4, v5 => (bif (decide (v2 < v1)) then (bif (decide (0 ≤ v2) && decide (v2 < (v4).length)) then ((v4[Int.toNat v2]?).bind fun x2 => ((mfind (kt := .str) x2 v5).bind fun x3 => (bif (decide (v2 < ((v0).length : Int))) then ((at? v0 v2).bind fun e4 => (bif (decide ((0 : Int) ≤ (IntKind.wrap .i64 (x3.2 + (intMax 0 (intMin e4 (IntKind.wrap .i64 (((x3.1).length : Int) - x3.2))))))) && decide ((IntKind.wrap .i64 (x3.2 + (intMax 0 (intMin e4 (IntKind.wrap .i64 (((x3.1).length : Int) - x3.2)))))) ≤ ((x3.1).length : Int))) then ((slices_Clone_byte_byte k (cut x3.1 0 (IntKind.wrap .i64 (x3.2 + (intMax 0 (intMin e4 (IntKind.wrap .i64 (((x3.1).length : Int) - x3.2)))))))).bind fun r5 => disk_Disk_Crash_p3 k v0 v1 (IntKind.wrap .i64 (v2 + 1)) () v4 (mset (kt := .str) x2 (r5, ((r5).length : Int)) v5)) else none)) else (bif (decide ((0 : Int) ≤ (IntKind.wrap .i64 (x3.2 + 0))) && decide ((IntKind.wrap .i64 (x3.2 + 0)) ≤ ((x3.1).length : Int))) then ((slices_Clone_byte_byte k (cut x3.1 0 (IntKind.wrap .i64 (x3.2 + 0)))).bind fun r6 => disk_Disk_Crash_p3 k v0 v1 (IntKind.wrap .i64 (v2 + 1)) () v4 (mset (kt := .str) x2 (r6, ((r6).length : Int)) v5)) else none)))) else none) else some ((), v5))
def disk_Disk_Crash_u3 : Part := ⟨⟨[(0, .ptr 2000000 0), (9, .sref 500000)], [.val 1 (.slice (.int .i64)), .val 10 (.int .i64), .val 11 (.int .i64), .cells 2000000 [.stat (.mref 1000000)], .arr 500000 .str, .pm 1000000]⟩, [(.exit 0, ⟨[(0, .ptr 2000000 0)], [.cells 2000000 [.stat (.mref 1000000)], .pm 1000000]⟩)], fun k x => disk_Disk_Crash_p3 k x.1 x.2.1 x.2.2.1 x.2.2.2.1 x.2.2.2.2.1 x.2.2.2.2.2⟩
def disk_Disk_Crash (k : Nat) (x0 : FL) (x1 : List Int) : Option FL := ((disk_Disk_names k x0).bind fun r1 => ((disk_Disk_Crash_p3 k x1 ((r1.1).length : Int) 0 () r1.1 r1.2).bind fun o7 => some o7.2))
def disk_Disk_Crash_spec : FSpec := ⟨[.disk, .imm (.slice (.int .i64))], [.backd], fun k x => disk_Disk_Crash k x.1 x.2⟩
def disk_Disk_Crash_parts : Parts := fun n => cond (Nat.beq n 3) (some disk_Disk_Crash_u3) (none)
def disk_Disk_Crash_env : List (Nat × FSpec) := [(29, disk_Disk_names_spec), (25, slices_Clone_byte_byte_spec)]
def law08_awake (k : Nat) : Option Bool := ((disk_New k ).bind fun r1 => (bif !([97, 98]).isEmpty then ((snap_Save k r1 4 3 2 [97, 98]).bind fun r2 => (bif (r2.1 != 0) then some false else ((disk_Disk_Crash k r2.2 []).bind fun r3 => ((snap_Load k r3 4).bind fun r4 => (bif (r4.2.2.2.1 == 0) then (bif (r4.1 == 3) then (bif (r4.2.1 == 2) then (bif ((toBytes r4.2.2.1) == [97, 98]) then ((snap_Count k 300).bind fun r5 => some (r5 == 2)) else some false) else some false) else some false) else some false))))) else none))
def law08_awake_spec : FSpec := ⟨[], [.imm .bool], fun k x => law08_awake k⟩
def law08_awake_parts : Parts := fun _ => none
def law08_awake_env : List (Nat × FSpec) := [(22, disk_New_spec), (12, snap_Save_spec), (10, disk_Disk_Crash_spec), (21, snap_Load_spec), (23, snap_Count_spec)]
def law08_SnapNobody_p6 : Nat → Int → Int → Int → Option (Int ⊕ Bool)
  | 0, _, _, _ => none
  | k + 1, v0, v1, v2 => (bif (decide (v2 < 2)) then (bif (v2 == 1) then ((snap_Load_zp k () v0).bind fun r1 => ((snap_Basket_Bytes k (0, ([], []))).bind fun r2 => (bif (r1.2.2.2 != 1) then some (.inr false) else ((snap_Save_zp k () v0 1 1 []).bind fun r3 => (bif (r3 != 1) then some (.inr false) else ((snap_Basket_Put k r2.2.2 0 []).bind fun r4 => (bif (r4.1 != 1) then some (.inr false) else ((snap_Basket_Missing k r4.2).bind fun r5 => (bif (((r5.1).length : Int) != 0) then some (.inr false) else (bif r2.2.1 then some (.inr false) else law08_SnapNobody_p6 k v0 v1 (IntKind.wrap .i64 (v2 + 1)))))))))))) else ((snap_Load_np k () v0).bind fun r6 => ((snap_Basket_Bytes_np k ()).bind fun r7 => (bif (r6.2.2.2 != 1) then some (.inr false) else ((snap_Save_np k () v0 1 1 []).bind fun r8 => (bif (r8 != 1) then some (.inr false) else ((snap_Basket_Put_np k () 0 []).bind fun r9 => (bif (r9 != 1) then some (.inr false) else ((snap_Basket_Missing_np k ()).bind fun r10 => (bif r7.2 then some (.inr false) else law08_SnapNobody_p6 k v0 v1 (IntKind.wrap .i64 (v2 + 1)))))))))))) else some (.inl v1))
def law08_SnapNobody_u6 : Part := ⟨⟨[], [.val 0 (.int .i64), .val 1 (.int .i64), .val 5 (.int .i64)]⟩, [(.exit 0, ⟨[], [.val 1 (.int .i64)]⟩), (.ret, ⟨[], [.val 4 .bool]⟩)], fun k x => law08_SnapNobody_p6 k x.1 x.2.1 x.2.2⟩
def law08_SnapNobody (k : Nat) (x0 : Int) (x1 : Int) : Option Bool := ((law08_SnapNobody_p6 k x0 x1 0).bind fun o11 => Sum.elim (fun a12 => ((snap_Gather k a12).bind fun r14 => ((r14.1).elim ((bif (decide (a12 ≥ 0)) then (bif ((r14.2 == 0) == (decide (a12 ≤ 32768))) then (bif (false == (r14.2 == 0)) then ((law08_awake k ).bind fun r18 => some r18) else some false) else some false) else (bif ((r14.2 == 0) == false) then (bif (false == (r14.2 == 0)) then ((law08_awake k ).bind fun r19 => some r19) else some false) else some false))) fun x15 => (bif (decide (a12 ≥ 0)) then (bif ((r14.2 == 0) == (decide (a12 ≤ 32768))) then (bif (true == (r14.2 == 0)) then ((law08_awake k ).bind fun r16 => some r16) else some false) else some false) else (bif ((r14.2 == 0) == false) then (bif (true == (r14.2 == 0)) then ((law08_awake k ).bind fun r17 => some r17) else some false) else some false))))) (fun b13 => some b13) o11)
def law08_SnapNobody_spec : FSpec := ⟨[.imm (.int .i64), .imm (.int .i64)], [.imm .bool], fun k x => law08_SnapNobody k x.1 x.2⟩
def law08_SnapNobody_parts : Parts := fun n => cond (Nat.beq n 6) (some law08_SnapNobody_u6) (none)
def law08_SnapNobody_env : List (Nat × FSpec) := [(21, snap_Load_zp_spec), (20, snap_Basket_Bytes_spec), (12, snap_Save_zp_spec), (18, snap_Basket_Put_spec), (19, snap_Basket_Missing_spec), (21, snap_Load_np_spec), (20, snap_Basket_Bytes_np_spec), (12, snap_Save_np_spec), (18, snap_Basket_Put_np_spec), (19, snap_Basket_Missing_np_spec), (16, snap_Gather_spec), (7, law08_awake_spec)]
end Go.Proofs.YtcbmmkjlppjfoaaGreatDoor.gg
