/- What the functions compute: printed by a program of our own. -/
import Derived.Test.YtgkdcldmepodfaaK6
import Derived.Test.YtgkdcldmepodfaaK5
open Go Go.GG
set_option linter.unusedVariables false
namespace Go.Proofs.Ytgkdcldmepodfaa.gg
def tab : Tab := [(2, ⟨.int .i64, 1, 8, [.int .i64 0], some (.int .i64), false⟩),
  (3, ⟨.int .i64, 1, 8, [.int .i64 0], some (.int .i64), false⟩),
  (5, ⟨.int .u8, 1, 1, [.int .u8 0], some (.int .u8), false⟩),
  (22, ⟨.slice 5, 1, 24, [.slice none 0 0], some (.slice (.int .u8)), false⟩),
  (26, ⟨.int .u64, 1, 8, [.int .u64 0], some (.int .u64), false⟩),
  (28, ⟨.struct [(3, 0), (26, 1), (22, 2), (3, 3)], 4, 48, [.int .i64 0, .int .u64 0, .slice none 0 0, .int .i64 0], some (.pair (.int .i64) (.pair (.int .u64) (.pair (.slice (.int .u8)) (.int .i64)))), false⟩),
  (32, ⟨.ptr 56, 1, 8, [.pointer none], none, false⟩),
  (36, ⟨.int .i64, 1, 8, [.int .i64 0], some (.int .i64), false⟩),
  (42, ⟨.int .u32, 1, 4, [.int .u32 0], some (.int .u32), false⟩),
  (56, ⟨.struct [(22, 0), (3, 1), (36, 2)], 3, 40, [.slice none 0 0, .int .i64 0, .int .i64 0], some (.pair (.slice (.int .u8)) (.pair (.int .i64) (.int .i64))), false⟩)]
def wire_Reader_fine (k : Nat) (x0 : (List Int) × Int × Int) : Option (Bool × (List Int) × Int × Int) := some ((x0.2.2 == 0), x0)
def wire_Reader_fine_spec : FSpec := ⟨[.lent (.pair (.slice (.int .u8)) (.pair (.int .i64) (.int .i64)))], [.imm .bool, .back (.pair (.slice (.int .u8)) (.pair (.int .i64) (.int .i64)))], fun k x => wire_Reader_fine k x⟩
def wire_Reader_fine_parts : Parts := fun _ => none
def wire_Reader_fine_env : List (Nat × FSpec) := []
def wire_Reader_peek_p8 : Nat → Int → (List Int) → Int → Int → ((List Int) × Int × Int) → Option (((List Int) × Int × Int) ⊕ (Int × Int × (List Int) × Int × Int))
  | 0, _, _, _, _, _ => none
  | k + 1, v0, v1, v2, v3, v4 => (bif (decide (v3 < v2)) then ((at? v1 v3).bind fun e1 => (bif (v3 == 9) then (bif (decide (e1 > 1)) then some (.inl v4) else (bif (e1 == 0) then (bif (decide (v3 > 0)) then some (.inl v4) else (bif decide (0 ≤ (IntKind.wrap .i64 (7 * v3))) then (bif (decide (e1 < 128)) then some (.inr ((bitv .or .u64 v0 (shlv .u64 (IntKind.wrap .u64 (bitv .and .u8 e1 127)) (IntKind.wrap .i64 (7 * v3)))), (IntKind.wrap .i64 (v3 + 1)), v4)) else wire_Reader_peek_p8 k (bitv .or .u64 v0 (shlv .u64 (IntKind.wrap .u64 (bitv .and .u8 e1 127)) (IntKind.wrap .i64 (7 * v3)))) v1 v2 (IntKind.wrap .i64 (v3 + 1)) v4) else none)) else (bif decide (0 ≤ (IntKind.wrap .i64 (7 * v3))) then (bif (decide (e1 < 128)) then some (.inr ((bitv .or .u64 v0 (shlv .u64 (IntKind.wrap .u64 (bitv .and .u8 e1 127)) (IntKind.wrap .i64 (7 * v3)))), (IntKind.wrap .i64 (v3 + 1)), v4)) else wire_Reader_peek_p8 k (bitv .or .u64 v0 (shlv .u64 (IntKind.wrap .u64 (bitv .and .u8 e1 127)) (IntKind.wrap .i64 (7 * v3)))) v1 v2 (IntKind.wrap .i64 (v3 + 1)) v4) else none))) else (bif (e1 == 0) then (bif (decide (v3 > 0)) then some (.inl v4) else (bif decide (0 ≤ (IntKind.wrap .i64 (7 * v3))) then (bif (decide (e1 < 128)) then some (.inr ((bitv .or .u64 v0 (shlv .u64 (IntKind.wrap .u64 (bitv .and .u8 e1 127)) (IntKind.wrap .i64 (7 * v3)))), (IntKind.wrap .i64 (v3 + 1)), v4)) else wire_Reader_peek_p8 k (bitv .or .u64 v0 (shlv .u64 (IntKind.wrap .u64 (bitv .and .u8 e1 127)) (IntKind.wrap .i64 (7 * v3)))) v1 v2 (IntKind.wrap .i64 (v3 + 1)) v4) else none)) else (bif decide (0 ≤ (IntKind.wrap .i64 (7 * v3))) then (bif (decide (e1 < 128)) then some (.inr ((bitv .or .u64 v0 (shlv .u64 (IntKind.wrap .u64 (bitv .and .u8 e1 127)) (IntKind.wrap .i64 (7 * v3)))), (IntKind.wrap .i64 (v3 + 1)), v4)) else wire_Reader_peek_p8 k (bitv .or .u64 v0 (shlv .u64 (IntKind.wrap .u64 (bitv .and .u8 e1 127)) (IntKind.wrap .i64 (7 * v3)))) v1 v2 (IntKind.wrap .i64 (v3 + 1)) v4) else none)))) else some (.inl v4))
def wire_Reader_peek_u8 : Part := ⟨⟨[(0, .ptr 1000000 0)], [.val 4 (.int .u64), .val 15 (.slice (.int .u8)), .val 16 (.int .i64), .val 17 (.int .i64), .cells 1000000 [.dyn (.slice (.int .u8)), .dyn (.int .i64), .dyn (.int .i64)]]⟩, [(.exit 0, ⟨[(0, .ptr 1000000 0)], [.cells 1000000 [.dyn (.slice (.int .u8)), .dyn (.int .i64), .dyn (.int .i64)]]⟩), (.ret, ⟨[(0, .ptr 1000000 0)], [.val 2 (.int .u64), .val 3 (.int .i64), .cells 1000000 [.dyn (.slice (.int .u8)), .dyn (.int .i64), .dyn (.int .i64)]]⟩)], fun k x => wire_Reader_peek_p8 k x.1 x.2.1 x.2.2.1 x.2.2.2.1 x.2.2.2.2⟩
def wire_Reader_peek (k : Nat) (x0 : (List Int) × Int × Int) : Option (Int × Int × (List Int) × Int × Int) := (bif (decide ((0 : Int) ≤ x0.2.1) && decide (x0.2.1 ≤ ((x0.1).length : Int)) && decide (((x0.1).length : Int) ≤ ((x0.1).length : Int))) then ((wire_Reader_peek_p8 k 0 (cut x0.1 x0.2.1 ((x0.1).length : Int)) (((cut x0.1 x0.2.1 ((x0.1).length : Int))).length : Int) 0 x0).bind fun o2 => Sum.elim (fun a3 => some (0, 0, a3)) (fun b4 => some b4) o2) else none)
def wire_Reader_peek_spec : FSpec := ⟨[.lent (.pair (.slice (.int .u8)) (.pair (.int .i64) (.int .i64)))], [.imm (.int .u64), .imm (.int .i64), .back (.pair (.slice (.int .u8)) (.pair (.int .i64) (.int .i64)))], fun k x => wire_Reader_peek k x⟩
def wire_Reader_peek_parts : Parts := fun n => cond (Nat.beq n 8) (some wire_Reader_peek_u8) (none)
def wire_Reader_peek_env : List (Nat × FSpec) := []
def wire_Reader_fail (k : Nat) (x0 : (List Int) × Int × Int) (x1 : Int) : Option ((List Int) × Int × Int) := (bif (x0.2.2 == 0) then some (x0.1, (x0.2.1, x1)) else some x0)
def wire_Reader_fail_spec : FSpec := ⟨[.lent (.pair (.slice (.int .u8)) (.pair (.int .i64) (.int .i64))), .imm (.int .i64)], [.back (.pair (.slice (.int .u8)) (.pair (.int .i64) (.int .i64)))], fun k x => wire_Reader_fail k x.1 x.2⟩
def wire_Reader_fail_parts : Parts := fun _ => none
def wire_Reader_fail_env : List (Nat × FSpec) := []
def wire_Reader_Uvarint (k : Nat) (x0 : (List Int) × Int × Int) : Option (Int × (List Int) × Int × Int) := ((wire_Reader_fine k x0).bind fun r1 => (bif (!r1.1) then some (0, r1.2) else ((wire_Reader_peek k r1.2).bind fun r2 => (bif (r2.2.1 == 0) then ((wire_Reader_fail k r2.2.2 5).bind fun r3 => some (r2.1, (r3.1, ((IntKind.wrap .i64 (r3.2.1 + r2.2.1)), r3.2.2)))) else some (r2.1, (r2.2.2.1, ((IntKind.wrap .i64 (r2.2.2.2.1 + r2.2.1)), r2.2.2.2.2)))))))
def wire_Reader_Uvarint_spec : FSpec := ⟨[.lent (.pair (.slice (.int .u8)) (.pair (.int .i64) (.int .i64)))], [.imm (.int .u64), .back (.pair (.slice (.int .u8)) (.pair (.int .i64) (.int .i64)))], fun k x => wire_Reader_Uvarint k x⟩
def wire_Reader_Uvarint_parts : Parts := fun _ => none
def wire_Reader_Uvarint_env : List (Nat × FSpec) := [(31, wire_Reader_fine_spec), (32, wire_Reader_peek_spec), (33, wire_Reader_fail_spec)]
def wire_Reader_fine_np (k : Nat) (x0 : Unit) : Option Bool := some false
def wire_Reader_fine_np_spec : FSpec := ⟨[.nilp], [.imm .bool], fun k x => wire_Reader_fine_np k x⟩
def wire_Reader_fine_np_parts : Parts := fun _ => none
def wire_Reader_fine_np_env : List (Nat × FSpec) := []
def wire_Reader_peek_np (k : Nat) (x0 : Unit) : Option (Int × Int) := none
def wire_Reader_peek_np_spec : FSpec := ⟨[.nilp], [.imm (.int .u64), .imm (.int .i64)], fun k x => wire_Reader_peek_np k x⟩
def wire_Reader_peek_np_parts : Parts := fun _ => none
def wire_Reader_peek_np_env : List (Nat × FSpec) := []
def wire_Reader_fail_np (k : Nat) (x0 : Unit) (x1 : Int) : Option Unit := none
def wire_Reader_fail_np_spec : FSpec := ⟨[.nilp, .imm (.int .i64)], [], fun k x => wire_Reader_fail_np k x.1 x.2⟩
def wire_Reader_fail_np_parts : Parts := fun _ => none
def wire_Reader_fail_np_env : List (Nat × FSpec) := []
def wire_Reader_Uvarint_np (k : Nat) (x0 : Unit) : Option Int := ((wire_Reader_fine_np k ()).bind fun r1 => (bif (!r1) then some 0 else ((wire_Reader_peek_np k ()).bind fun r2 => (bif (r2.2 == 0) then ((wire_Reader_fail_np k () 5).bind fun r3 => none) else none))))
def wire_Reader_Uvarint_np_spec : FSpec := ⟨[.nilp], [.imm (.int .u64)], fun k x => wire_Reader_Uvarint_np k x⟩
def wire_Reader_Uvarint_np_parts : Parts := fun _ => none
def wire_Reader_Uvarint_np_env : List (Nat × FSpec) := [(31, wire_Reader_fine_np_spec), (32, wire_Reader_peek_np_spec), (33, wire_Reader_fail_np_spec)]
def wire_Reader_Varint (k : Nat) (x0 : (List Int) × Int × Int) : Option (Int × (List Int) × Int × Int) := ((wire_Reader_Uvarint k x0).bind fun r1 => some ((bitv .xor .i64 (IntKind.wrap .i64 (shrv .u64 r1.1 1)) (IntKind.wrap .i64 (0 - (IntKind.wrap .i64 (bitv .and .u64 r1.1 1))))), r1.2))
def wire_Reader_Varint_spec : FSpec := ⟨[.lent (.pair (.slice (.int .u8)) (.pair (.int .i64) (.int .i64)))], [.imm (.int .i64), .back (.pair (.slice (.int .u8)) (.pair (.int .i64) (.int .i64)))], fun k x => wire_Reader_Varint k x⟩
def wire_Reader_Varint_parts : Parts := fun _ => none
def wire_Reader_Varint_env : List (Nat × FSpec) := [(11, wire_Reader_Uvarint_spec)]
def wire_Reader_Varint_np (k : Nat) (x0 : Unit) : Option Int := ((wire_Reader_Uvarint_np k ()).bind fun r1 => some (bitv .xor .i64 (IntKind.wrap .i64 (shrv .u64 r1 1)) (IntKind.wrap .i64 (0 - (IntKind.wrap .i64 (bitv .and .u64 r1 1))))))
def wire_Reader_Varint_np_spec : FSpec := ⟨[.nilp], [.imm (.int .i64)], fun k x => wire_Reader_Varint_np k x⟩
def wire_Reader_Varint_np_parts : Parts := fun _ => none
def wire_Reader_Varint_np_env : List (Nat × FSpec) := [(11, wire_Reader_Uvarint_np_spec)]
def wire_Reader_take (k : Nat) (x0 : (List Int) × Int × Int) (x1 : Int) : Option ((List Int) × (List Int) × Int × Int) := ((wire_Reader_fine k x0).bind fun r1 => (bif (!r1.1) then some ([], r1.2) else (bif (decide (x1 > (IntKind.wrap .i64 (((r1.2.1).length : Int) - r1.2.2.1)))) then ((wire_Reader_fail k r1.2 5).bind fun r2 => some ([], r2)) else (bif (decide ((0 : Int) ≤ (IntKind.wrap .i64 ((IntKind.wrap .i64 (r1.2.2.1 + x1)) - x1))) && decide ((IntKind.wrap .i64 ((IntKind.wrap .i64 (r1.2.2.1 + x1)) - x1)) ≤ (IntKind.wrap .i64 (r1.2.2.1 + x1))) && decide ((IntKind.wrap .i64 (r1.2.2.1 + x1)) ≤ ((r1.2.1).length : Int))) then some ((cut r1.2.1 (IntKind.wrap .i64 ((IntKind.wrap .i64 (r1.2.2.1 + x1)) - x1)) (IntKind.wrap .i64 (r1.2.2.1 + x1))), (r1.2.1, ((IntKind.wrap .i64 (r1.2.2.1 + x1)), r1.2.2.2))) else none))))
def wire_Reader_take_spec : FSpec := ⟨[.lent (.pair (.slice (.int .u8)) (.pair (.int .i64) (.int .i64))), .imm (.int .i64)], [.imm (.slice (.int .u8)), .back (.pair (.slice (.int .u8)) (.pair (.int .i64) (.int .i64)))], fun k x => wire_Reader_take k x.1 x.2⟩
def wire_Reader_take_parts : Parts := fun _ => none
def wire_Reader_take_env : List (Nat × FSpec) := [(31, wire_Reader_fine_spec), (33, wire_Reader_fail_spec)]
def wire_low4 (k : Nat) (x0 : List Int) : Option Int := ((at? x0 0).bind fun e1 => ((at? x0 1).bind fun e2 => ((at? x0 2).bind fun e3 => ((at? x0 3).bind fun e4 => some (bitv .or .u32 (bitv .or .u32 (bitv .or .u32 (IntKind.wrap .u32 e1) (shlv .u32 (IntKind.wrap .u32 e2) 8)) (shlv .u32 (IntKind.wrap .u32 e3) 16)) (shlv .u32 (IntKind.wrap .u32 e4) 24))))))
def wire_low4_spec : FSpec := ⟨[.imm (.slice (.int .u8))], [.imm (.int .u32)], fun k x => wire_low4 k x⟩
def wire_low4_parts : Parts := fun _ => none
def wire_low4_env : List (Nat × FSpec) := []
def wire_Reader_Fixed4 (k : Nat) (x0 : (List Int) × Int × Int) : Option (Int × (List Int) × Int × Int) := ((wire_Reader_take k x0 4).bind fun r1 => (bif !(r1.1).isEmpty then ((wire_low4 k r1.1).bind fun r2 => some (r2, r1.2)) else none))
def wire_Reader_Fixed4_spec : FSpec := ⟨[.lent (.pair (.slice (.int .u8)) (.pair (.int .i64) (.int .i64)))], [.imm (.int .u32), .back (.pair (.slice (.int .u8)) (.pair (.int .i64) (.int .i64)))], fun k x => wire_Reader_Fixed4 k x⟩
def wire_Reader_Fixed4_parts : Parts := fun _ => none
def wire_Reader_Fixed4_env : List (Nat × FSpec) := [(35, wire_Reader_take_spec), (36, wire_low4_spec)]
def wire_Reader_take_np (k : Nat) (x0 : Unit) (x1 : Int) : Option Unit := ((wire_Reader_fine_np k ()).bind fun r1 => (bif (!r1) then some () else none))
def wire_Reader_take_np_spec : FSpec := ⟨[.nilp, .imm (.int .i64)], [.nils], fun k x => wire_Reader_take_np k x.1 x.2⟩
def wire_Reader_take_np_parts : Parts := fun _ => none
def wire_Reader_take_np_env : List (Nat × FSpec) := [(31, wire_Reader_fine_np_spec)]
def wire_Reader_Fixed4_np (k : Nat) (x0 : Unit) : Option Int := ((wire_Reader_take_np k () 4).bind fun r1 => some 0)
def wire_Reader_Fixed4_np_spec : FSpec := ⟨[.nilp], [.imm (.int .u32)], fun k x => wire_Reader_Fixed4_np k x⟩
def wire_Reader_Fixed4_np_parts : Parts := fun _ => none
def wire_Reader_Fixed4_np_env : List (Nat × FSpec) := [(35, wire_Reader_take_np_spec)]
def wire_Reader_Fixed8 (k : Nat) (x0 : (List Int) × Int × Int) : Option (Int × (List Int) × Int × Int) := ((wire_Reader_take k x0 8).bind fun r1 => (bif !(r1.1).isEmpty then ((wire_low4 k r1.1).bind fun r2 => (bif (true && decide ((4 : Int) ≤ ((r1.1).length : Int)) && decide (((r1.1).length : Int) ≤ ((r1.1).length : Int))) then ((wire_low4 k (cut r1.1 4 ((r1.1).length : Int))).bind fun r3 => some ((bitv .or .u64 (IntKind.wrap .u64 r2) (shlv .u64 (IntKind.wrap .u64 r3) 32)), r1.2)) else none)) else none))
def wire_Reader_Fixed8_spec : FSpec := ⟨[.lent (.pair (.slice (.int .u8)) (.pair (.int .i64) (.int .i64)))], [.imm (.int .u64), .back (.pair (.slice (.int .u8)) (.pair (.int .i64) (.int .i64)))], fun k x => wire_Reader_Fixed8 k x⟩
def wire_Reader_Fixed8_parts : Parts := fun _ => none
def wire_Reader_Fixed8_env : List (Nat × FSpec) := [(35, wire_Reader_take_spec), (36, wire_low4_spec)]
def wire_Reader_Fixed8_np (k : Nat) (x0 : Unit) : Option Int := ((wire_Reader_take_np k () 8).bind fun r1 => some 0)
def wire_Reader_Fixed8_np_spec : FSpec := ⟨[.nilp], [.imm (.int .u64)], fun k x => wire_Reader_Fixed8_np k x⟩
def wire_Reader_Fixed8_np_parts : Parts := fun _ => none
def wire_Reader_Fixed8_np_env : List (Nat × FSpec) := [(35, wire_Reader_take_np_spec)]
def wire_Reader_Byte (k : Nat) (x0 : (List Int) × Int × Int) : Option (Int × (List Int) × Int × Int) := ((wire_Reader_take k x0 1).bind fun r1 => (bif !(r1.1).isEmpty then ((at? r1.1 0).bind fun e2 => some (e2, r1.2)) else none))
def wire_Reader_Byte_spec : FSpec := ⟨[.lent (.pair (.slice (.int .u8)) (.pair (.int .i64) (.int .i64)))], [.imm (.int .u8), .back (.pair (.slice (.int .u8)) (.pair (.int .i64) (.int .i64)))], fun k x => wire_Reader_Byte k x⟩
def wire_Reader_Byte_parts : Parts := fun _ => none
def wire_Reader_Byte_env : List (Nat × FSpec) := [(35, wire_Reader_take_spec)]
def wire_Reader_Byte_np (k : Nat) (x0 : Unit) : Option Int := ((wire_Reader_take_np k () 1).bind fun r1 => some 0)
def wire_Reader_Byte_np_spec : FSpec := ⟨[.nilp], [.imm (.int .u8)], fun k x => wire_Reader_Byte_np k x⟩
def wire_Reader_Byte_np_parts : Parts := fun _ => none
def wire_Reader_Byte_np_env : List (Nat × FSpec) := [(35, wire_Reader_take_np_spec)]
def wire_Reader_number (k : Nat) (x0 : (List Int) × Int × Int) (x1 : Int) : Option (Int × Int × (List Int) × Int × Int) := ((wire_Reader_fine k x0).bind fun r1 => (bif (!r1.1) then some (0, 0, r1.2) else ((wire_Reader_peek k r1.2).bind fun r2 => (bif (r2.2.1 == 0) then ((wire_Reader_fail k r2.2.2 5).bind fun r3 => some (0, 0, r3)) else (bif (decide (r2.1 > 9223372036854775807)) then ((wire_Reader_fail k r2.2.2 3).bind fun r4 => some (0, 0, r4)) else (bif (decide ((IntKind.wrap .i64 r2.1) > x1)) then ((wire_Reader_fail k r2.2.2 3).bind fun r5 => some (0, 0, r5)) else some ((IntKind.wrap .i64 r2.1), r2.2.1, r2.2.2)))))))
def wire_Reader_number_spec : FSpec := ⟨[.lent (.pair (.slice (.int .u8)) (.pair (.int .i64) (.int .i64))), .imm (.int .i64)], [.imm (.int .i64), .imm (.int .i64), .back (.pair (.slice (.int .u8)) (.pair (.int .i64) (.int .i64)))], fun k x => wire_Reader_number k x.1 x.2⟩
def wire_Reader_number_parts : Parts := fun _ => none
def wire_Reader_number_env : List (Nat × FSpec) := [(31, wire_Reader_fine_spec), (32, wire_Reader_peek_spec), (33, wire_Reader_fail_spec)]
def wire_Reader_Number (k : Nat) (x0 : (List Int) × Int × Int) (x1 : Int) : Option (Int × (List Int) × Int × Int) := ((wire_Reader_number k x0 x1).bind fun r1 => (bif (decide (r1.2.1 > 0)) then some (r1.1, (r1.2.2.1, ((IntKind.wrap .i64 (r1.2.2.2.1 + r1.2.1)), r1.2.2.2.2))) else some (r1.1, r1.2.2)))
def wire_Reader_Number_spec : FSpec := ⟨[.lent (.pair (.slice (.int .u8)) (.pair (.int .i64) (.int .i64))), .imm (.int .i64)], [.imm (.int .i64), .back (.pair (.slice (.int .u8)) (.pair (.int .i64) (.int .i64)))], fun k x => wire_Reader_Number k x.1 x.2⟩
def wire_Reader_Number_parts : Parts := fun _ => none
def wire_Reader_Number_env : List (Nat × FSpec) := [(37, wire_Reader_number_spec)]
def wire_Reader_number_np (k : Nat) (x0 : Unit) (x1 : Int) : Option (Int × Int) := ((wire_Reader_fine_np k ()).bind fun r1 => (bif (!r1) then some (0, 0) else ((wire_Reader_peek_np k ()).bind fun r2 => (bif (r2.2 == 0) then ((wire_Reader_fail_np k () 5).bind fun r3 => some (0, 0)) else (bif (decide (r2.1 > 9223372036854775807)) then ((wire_Reader_fail_np k () 3).bind fun r4 => some (0, 0)) else (bif (decide ((IntKind.wrap .i64 r2.1) > x1)) then ((wire_Reader_fail_np k () 3).bind fun r5 => some (0, 0)) else some ((IntKind.wrap .i64 r2.1), r2.2)))))))
def wire_Reader_number_np_spec : FSpec := ⟨[.nilp, .imm (.int .i64)], [.imm (.int .i64), .imm (.int .i64)], fun k x => wire_Reader_number_np k x.1 x.2⟩
def wire_Reader_number_np_parts : Parts := fun _ => none
def wire_Reader_number_np_env : List (Nat × FSpec) := [(31, wire_Reader_fine_np_spec), (32, wire_Reader_peek_np_spec), (33, wire_Reader_fail_np_spec)]
def wire_Reader_Number_np (k : Nat) (x0 : Unit) (x1 : Int) : Option Int := ((wire_Reader_number_np k () x1).bind fun r1 => (bif (decide (r1.2 > 0)) then none else some r1.1))
def wire_Reader_Number_np_spec : FSpec := ⟨[.nilp, .imm (.int .i64)], [.imm (.int .i64)], fun k x => wire_Reader_Number_np k x.1 x.2⟩
def wire_Reader_Number_np_parts : Parts := fun _ => none
def wire_Reader_Number_np_env : List (Nat × FSpec) := [(37, wire_Reader_number_np_spec)]
def slices_Clone_byte_byte_nil (k : Nat) (x0 : Unit) : Option (List Int) := some []
def slices_Clone_byte_byte_nil_spec : FSpec := ⟨[.nils], [.own (.int .u8)], fun k x => slices_Clone_byte_byte_nil k x⟩
def slices_Clone_byte_byte_nil_parts : Parts := fun _ => none
def slices_Clone_byte_byte_nil_env : List (Nat × FSpec) := []
def slices_Clone_byte_byte (k : Nat) (x0 : List Int) : Option (List Int) := (bif room (([] ++ x0)).length 1 then some ([] ++ x0) else none)
def slices_Clone_byte_byte_spec : FSpec := ⟨[.imm (.slice (.int .u8))], [.own (.int .u8)], fun k x => slices_Clone_byte_byte k x⟩
def slices_Clone_byte_byte_sspec : FSpec := ⟨[.nnil (.int .u8)], [.own (.int .u8)], fun k x => slices_Clone_byte_byte k x⟩
def slices_Clone_byte_byte_parts : Parts := fun _ => none
def slices_Clone_byte_byte_env : List (Nat × FSpec) := []
def wire_Reader_Bytes (k : Nat) (x0 : (List Int) × Int × Int) (x1 : Int) : Option ((List Int) × (List Int) × Int × Int) := ((wire_Reader_number k x0 x1).bind fun r1 => (bif (r1.2.1 == 0) then some ([], r1.2.2) else (bif (decide (r1.1 > (IntKind.wrap .i64 ((IntKind.wrap .i64 (((r1.2.2.1).length : Int) - r1.2.2.2.1)) - r1.2.1)))) then ((wire_Reader_fail k r1.2.2 5).bind fun r2 => some ([], r2)) else ((wire_Reader_take k (r1.2.2.1, ((IntKind.wrap .i64 (r1.2.2.2.1 + r1.2.1)), r1.2.2.2.2)) r1.1).bind fun r3 => ((slices_Clone_byte_byte k r3.1).bind fun r4 => some (r4, r3.2))))))
def wire_Reader_Bytes_spec : FSpec := ⟨[.lent (.pair (.slice (.int .u8)) (.pair (.int .i64) (.int .i64))), .imm (.int .i64)], [.own (.int .u8), .back (.pair (.slice (.int .u8)) (.pair (.int .i64) (.int .i64)))], fun k x => wire_Reader_Bytes k x.1 x.2⟩
def wire_Reader_Bytes_parts : Parts := fun _ => none
def wire_Reader_Bytes_env : List (Nat × FSpec) := [(37, wire_Reader_number_spec), (33, wire_Reader_fail_spec), (35, wire_Reader_take_spec), (30, slices_Clone_byte_byte_spec)]
def wire_Reader_Bytes_np (k : Nat) (x0 : Unit) (x1 : Int) : Option Unit := ((wire_Reader_number_np k () x1).bind fun r1 => (bif (r1.2 == 0) then some () else none))
def wire_Reader_Bytes_np_spec : FSpec := ⟨[.nilp, .imm (.int .i64)], [.nils], fun k x => wire_Reader_Bytes_np k x.1 x.2⟩
def wire_Reader_Bytes_np_parts : Parts := fun _ => none
def wire_Reader_Bytes_np_env : List (Nat × FSpec) := [(37, wire_Reader_number_np_spec)]
def wire_Reader_Err (k : Nat) (x0 : (List Int) × Int × Int) : Option (Int × (List Int) × Int × Int) := some (x0.2.2, x0)
def wire_Reader_Err_spec : FSpec := ⟨[.lent (.pair (.slice (.int .u8)) (.pair (.int .i64) (.int .i64)))], [.imm (.int .i64), .back (.pair (.slice (.int .u8)) (.pair (.int .i64) (.int .i64)))], fun k x => wire_Reader_Err k x⟩
def wire_Reader_Err_parts : Parts := fun _ => none
def wire_Reader_Err_env : List (Nat × FSpec) := []
def wire_Reader_Err_np (k : Nat) (x0 : Unit) : Option Int := some 5
def wire_Reader_Err_np_spec : FSpec := ⟨[.nilp], [.imm (.int .i64)], fun k x => wire_Reader_Err_np k x⟩
def wire_Reader_Err_np_parts : Parts := fun _ => none
def wire_Reader_Err_np_env : List (Nat × FSpec) := []
def wire_Reader_Left (k : Nat) (x0 : (List Int) × Int × Int) : Option (Int × (List Int) × Int × Int) := some ((IntKind.wrap .i64 (((x0.1).length : Int) - x0.2.1)), x0)
def wire_Reader_Left_spec : FSpec := ⟨[.lent (.pair (.slice (.int .u8)) (.pair (.int .i64) (.int .i64)))], [.imm (.int .i64), .back (.pair (.slice (.int .u8)) (.pair (.int .i64) (.int .i64)))], fun k x => wire_Reader_Left k x⟩
def wire_Reader_Left_parts : Parts := fun _ => none
def wire_Reader_Left_env : List (Nat × FSpec) := []
def wire_Reader_Left_np (k : Nat) (x0 : Unit) : Option Int := some 0
def wire_Reader_Left_np_spec : FSpec := ⟨[.nilp], [.imm (.int .i64)], fun k x => wire_Reader_Left_np k x⟩
def wire_Reader_Left_np_parts : Parts := fun _ => none
def wire_Reader_Left_np_env : List (Nat × FSpec) := []
def wire_Reader_Done (k : Nat) (x0 : (List Int) × Int × Int) : Option (Int × (List Int) × Int × Int) := ((wire_Reader_Err k x0).bind fun r1 => (bif (r1.1 != 0) then some r1 else ((wire_Reader_Left k r1.2).bind fun r2 => (bif (decide (r2.1 > 0)) then some (5, r2.2) else some (0, r2.2)))))
def wire_Reader_Done_spec : FSpec := ⟨[.lent (.pair (.slice (.int .u8)) (.pair (.int .i64) (.int .i64)))], [.imm (.int .i64), .back (.pair (.slice (.int .u8)) (.pair (.int .i64) (.int .i64)))], fun k x => wire_Reader_Done k x⟩
def wire_Reader_Done_parts : Parts := fun _ => none
def wire_Reader_Done_env : List (Nat × FSpec) := [(13, wire_Reader_Err_spec), (12, wire_Reader_Left_spec)]
def wire_Reader_Done_np (k : Nat) (x0 : Unit) : Option Int := ((wire_Reader_Err_np k ()).bind fun r1 => (bif (r1 != 0) then some r1 else ((wire_Reader_Left_np k ()).bind fun r2 => (bif (decide (r2 > 0)) then some 5 else some 0))))
def wire_Reader_Done_np_spec : FSpec := ⟨[.nilp], [.imm (.int .i64)], fun k x => wire_Reader_Done_np k x⟩
def wire_Reader_Done_np_parts : Parts := fun _ => none
def wire_Reader_Done_np_env : List (Nat × FSpec) := [(13, wire_Reader_Err_np_spec), (12, wire_Reader_Left_np_spec)]
def wire_own (k : Nat) (x0 : List Int) : Option (List Int) := (bif (true && decide ((0 : Int) ≤ ((x0).length : Int)) && decide (((x0).length : Int) ≤ ((x0).length : Int))) then (bif (((x0).length : Int) == ((x0).length : Int)) then some (cut x0 0 ((x0).length : Int)) else none) else none)
def wire_own_spec : FSpec := ⟨[.imm (.slice (.int .u8))], [.full (.int .u8)], fun k x => wire_own k x⟩
def wire_own_parts : Parts := fun _ => none
def wire_own_env : List (Nat × FSpec) := []
def wire_Uvarint_p6 : Nat → Int → (List Int) → Option ((Int × List Int))
  | 0, _, _ => none
  | k + 1, v0, v1 => (bif (decide (v0 ≥ 128)) then (bif room ((v1 ++ [(bitv .or .u8 (IntKind.wrap .u8 v0) 128)])).length 1 then wire_Uvarint_p6 k (shrv .u64 v0 7) (v1 ++ [(bitv .or .u8 (IntKind.wrap .u8 v0) 128)]) else none) else some (v0, v1))
def wire_Uvarint_u6 : Part := ⟨⟨[(0, .sref 500001)], [.val 1 (.int .u64), .app 500001 (.int .u8)]⟩, [(.exit 0, ⟨[(0, .sref 500001)], [.val 1 (.int .u64), .app 500001 (.int .u8)]⟩)], fun k x => wire_Uvarint_p6 k x.1 x.2⟩
def wire_Uvarint (k : Nat) (x0 : List Int) (x1 : Int) : Option (List Int) := ((wire_own k x0).bind fun r1 => ((wire_Uvarint_p6 k x1 r1).bind fun o2 => (bif room ((o2.2 ++ [(IntKind.wrap .u8 o2.1)])).length 1 then some (o2.2 ++ [(IntKind.wrap .u8 o2.1)]) else none)))
def wire_Uvarint_spec : FSpec := ⟨[.imm (.slice (.int .u8)), .imm (.int .u64)], [.own (.int .u8)], fun k x => wire_Uvarint k x.1 x.2⟩
def wire_Uvarint_parts : Parts := fun n => cond (Nat.beq n 6) (some wire_Uvarint_u6) (none)
def wire_Uvarint_env : List (Nat × FSpec) := [(34, wire_own_spec)]
def law02_awake (k : Nat) : Option Bool := ((wire_Uvarint k [7] 300).bind fun r1 => (bif (((r1).length : Int) == 3) then (bif (decide (0 ≤ (0 : Int)) && decide ((0 : Int) < (r1).length)) then ((r1[Int.toNat 0]?).bind fun x2 => (bif (x2 == 7) then (bif (decide (0 ≤ (1 : Int)) && decide ((1 : Int) < (r1).length)) then ((r1[Int.toNat 1]?).bind fun x3 => (bif (x3 == 172) then (bif (decide (0 ≤ (2 : Int)) && decide ((2 : Int) < (r1).length)) then ((r1[Int.toNat 2]?).bind fun x4 => some (x4 == 2)) else none) else some false)) else none) else some false)) else none) else some false))
def law02_awake_spec : FSpec := ⟨[], [.imm .bool], fun k x => law02_awake k⟩
def law02_awake_parts : Parts := fun _ => none
def law02_awake_env : List (Nat × FSpec) := [(14, wire_Uvarint_spec)]
def law02_WireNobody (k : Nat) (x0 : Int × Int × (List Int) × Int) : Option Bool := ((wire_Reader_Uvarint_np k ()).bind fun r1 => (bif (r1 == 0) then ((wire_Reader_Varint_np k ()).bind fun r2 => (bif (r2 == 0) then ((wire_Reader_Fixed4_np k ()).bind fun r3 => (bif (r3 == 0) then ((wire_Reader_Fixed8_np k ()).bind fun r4 => (bif (r4 == 0) then ((wire_Reader_Byte_np k ()).bind fun r5 => (bif (r5 == 0) then ((wire_Reader_Number_np k () x0.2.2.2).bind fun r6 => (bif (r6 == 0) then ((wire_Reader_Bytes_np k () x0.2.2.2).bind fun r7 => ((wire_Reader_Err_np k ()).bind fun r8 => (bif (r8 == 5) then ((wire_Reader_Left_np k ()).bind fun r9 => (bif (r9 == 0) then ((wire_Reader_Done_np k ()).bind fun r10 => (bif (r10 == 5) then ((law02_awake k ).bind fun r11 => some r11) else some false)) else some false)) else some false))) else some false)) else some false)) else some false)) else some false)) else some false)) else some false))
def law02_WireNobody_spec : FSpec := ⟨[.agg (.pair (.int .i64) (.pair (.int .u64) (.pair (.slice (.int .u8)) (.int .i64))))], [.imm .bool], fun k x => law02_WireNobody k x⟩
def law02_WireNobody_parts : Parts := fun _ => none
def law02_WireNobody_env : List (Nat × FSpec) := [(11, wire_Reader_Uvarint_np_spec), (15, wire_Reader_Varint_np_spec), (17, wire_Reader_Fixed4_np_spec), (18, wire_Reader_Fixed8_np_spec), (21, wire_Reader_Byte_np_spec), (22, wire_Reader_Number_np_spec), (19, wire_Reader_Bytes_np_spec), (13, wire_Reader_Err_np_spec), (12, wire_Reader_Left_np_spec), (20, wire_Reader_Done_np_spec), (9, law02_awake_spec)]
end Go.Proofs.Ytgkdcldmepodfaa.gg
