/- What the functions compute: printed by a program of our own. -/
import Derived.Test.YtlmfnbcnfhiheaaL2
open Go Go.GG
set_option linter.unusedVariables false
namespace Go.Proofs.Ytlmfnbcnfhiheaa.gg
def tab : Tab := [(3, ⟨.int .i64, 1, 8, [.int .i64 0], some (.int .i64), false⟩),
  (4, ⟨.bool, 1, 1, [.bool false], some .bool, false⟩),
  (5, ⟨.int .u8, 1, 1, [.int .u8 0], some (.int .u8), false⟩),
  (9, ⟨.str, 1, 16, [.string ⟨#[]⟩], some .str, false⟩),
  (22, ⟨.int .u64, 1, 8, [.int .u64 0], some (.int .u64), false⟩),
  (24, ⟨.struct [(22, 0), (22, 1), (4, 2)], 3, 24, [.int .u64 0, .int .u64 0, .bool false], some (.pair (.int .u64) (.pair (.int .u64) .bool)), true⟩),
  (30, ⟨.int .i64, 1, 8, [.int .i64 0], some (.int .i64), false⟩),
  (37, ⟨.slice 5, 1, 24, [.slice none 0 0], some (.slice (.int .u8)), false⟩),
  (48, ⟨.ptr 62, 1, 8, [.pointer none], none, false⟩),
  (55, ⟨.struct [(37, 0), (3, 1), (30, 2)], 3, 40, [.slice none 0 0, .int .i64 0, .int .i64 0], some (.pair (.slice (.int .u8)) (.pair (.int .i64) (.int .i64))), false⟩),
  (62, ⟨.struct [(37, 0), (3, 1), (30, 2)], 3, 40, [.slice none 0 0, .int .i64 0, .int .i64 0], some (.pair (.slice (.int .u8)) (.pair (.int .i64) (.int .i64))), false⟩),
  (71, ⟨.int .u64, 1, 8, [.int .u64 0], some (.int .u64), false⟩)]
def oracle_New (k : Nat) (x0 : Int) : Option ((Int × Int × Bool) × Int) := (bif (x0 == 0) then some ((0, (0, false)), 1) else some ((x0, ((IntKind.wrap .u64 (x0 - 1)), false)), 0))
def oracle_New_spec : FSpec := ⟨[.imm (.int .u64)], [.agg (.pair (.int .u64) (.pair (.int .u64) .bool)), .imm (.int .i64)], fun k x => oracle_New k x⟩
def oracle_New_parts : Parts := fun _ => none
def oracle_New_env : List (Nat × FSpec) := []
def oracle_Check (k : Nat) (x0 : Int × Int × Bool) : Option Int := (bif (x0.1 == 0) then some 1 else (bif (decide (x0.2.1 < (IntKind.wrap .u64 (x0.1 - 1)))) then some 1 else (bif x0.2.2 then (bif (x0.1 != 18446744073709551615) then some 1 else (bif (x0.2.1 != 18446744073709551615) then some 1 else some 0)) else some 0)))
def oracle_Check_spec : FSpec := ⟨[.agg (.pair (.int .u64) (.pair (.int .u64) .bool))], [.imm (.int .i64)], fun k x => oracle_Check k x⟩
def oracle_Check_parts : Parts := fun _ => none
def oracle_Check_env : List (Nat × FSpec) := []
def oracle_Extend (k : Nat) (x0 : Int × Int × Bool) (x1 : Int) : Option ((Int × Int × Bool) × Int) := ((oracle_Check k x0).bind fun r1 => (bif (r1 != 0) then some ((0, (0, false)), 1) else (bif (decide (x1 < 1)) then some ((0, (0, false)), 1) else (bif (decide (x1 > 65536)) then some ((0, (0, false)), 1) else (bif (x0.2.1 == 18446744073709551615) then some ((0, (0, false)), 11) else some ((x0.1, ((IntKind.wrap .u64 (x0.2.1 + (intMin (IntKind.wrap .u64 x1) (IntKind.wrap .u64 (18446744073709551615 - x0.2.1))))), x0.2.2)), 0))))))
def oracle_Extend_spec : FSpec := ⟨[.agg (.pair (.int .u64) (.pair (.int .u64) .bool)), .imm (.int .i64)], [.agg (.pair (.int .u64) (.pair (.int .u64) .bool)), .imm (.int .i64)], fun k x => oracle_Extend k x.1 x.2⟩
def oracle_Extend_parts : Parts := fun _ => none
def oracle_Extend_env : List (Nat × FSpec) := [(17, oracle_Check_spec)]
def oracle_Left (k : Nat) (x0 : Int × Int × Bool) : Option Int := ((oracle_Check k x0).bind fun r1 => (bif (r1 != 0) then some 0 else (bif x0.2.2 then some 0 else some (IntKind.wrap .u64 (x0.2.1 - (IntKind.wrap .u64 (x0.1 - 1)))))))
def oracle_Left_spec : FSpec := ⟨[.agg (.pair (.int .u64) (.pair (.int .u64) .bool))], [.imm (.int .u64)], fun k x => oracle_Left k x⟩
def oracle_Left_parts : Parts := fun _ => none
def oracle_Left_env : List (Nat × FSpec) := [(17, oracle_Check_spec)]
def oracle_Take (k : Nat) (x0 : Int × Int × Bool) : Option ((Int × Int × Bool) × Int × Int) := ((oracle_Check k x0).bind fun r1 => (bif (r1 != 0) then some ((0, (0, false)), 0, 1) else (bif x0.2.2 then some ((0, (0, false)), 0, 11) else ((oracle_Left k x0).bind fun r2 => (bif (r2 == 0) then some ((0, (0, false)), 0, 9) else (bif (x0.1 == 18446744073709551615) then some ((x0.1, (x0.2.1, true)), x0.1, 0) else some (((IntKind.wrap .u64 (x0.1 + 1)), x0.2), x0.1, 0)))))))
def oracle_Take_spec : FSpec := ⟨[.agg (.pair (.int .u64) (.pair (.int .u64) .bool))], [.agg (.pair (.int .u64) (.pair (.int .u64) .bool)), .imm (.int .u64), .imm (.int .i64)], fun k x => oracle_Take k x⟩
def oracle_Take_parts : Parts := fun _ => none
def oracle_Take_env : List (Nat × FSpec) := [(17, oracle_Check_spec), (16, oracle_Left_spec)]
def law18_awake (k : Nat) : Option Bool := ((oracle_New k 1).bind fun r1 => (bif (r1.2 != 0) then some false else ((oracle_Extend k r1.1 2).bind fun r2 => ((oracle_Take k r2.1).bind fun r3 => (bif (r2.2 == 0) then (bif (r3.2.2 == 0) then (bif (r3.2.1 == 1) then ((oracle_Left k r3.1).bind fun r4 => some (r4 == 1)) else some false) else some false) else some false)))))
def law18_awake_spec : FSpec := ⟨[], [.imm .bool], fun k x => law18_awake k⟩
def law18_awake_parts : Parts := fun _ => none
def law18_awake_env : List (Nat × FSpec) := [(15, oracle_New_spec), (8, oracle_Extend_spec), (10, oracle_Take_spec), (16, oracle_Left_spec)]
def slices_Clone_byte_byte_nil (k : Nat) (x0 : Unit) : Option (List Int) := some []
def slices_Clone_byte_byte_nil_spec : FSpec := ⟨[.nils], [.own (.int .u8)], fun k x => slices_Clone_byte_byte_nil k x⟩
def slices_Clone_byte_byte_nil_parts : Parts := fun _ => none
def slices_Clone_byte_byte_nil_env : List (Nat × FSpec) := []
def slices_Clone_byte_byte (k : Nat) (x0 : List Int) : Option (List Int) := (bif room (([] ++ x0)).length 1 then some ([] ++ x0) else none)
def slices_Clone_byte_byte_spec : FSpec := ⟨[.imm (.slice (.int .u8))], [.own (.int .u8)], fun k x => slices_Clone_byte_byte k x⟩
def slices_Clone_byte_byte_sspec : FSpec := ⟨[.nnil (.int .u8)], [.own (.int .u8)], fun k x => slices_Clone_byte_byte k x⟩
def slices_Clone_byte_byte_parts : Parts := fun _ => none
def slices_Clone_byte_byte_env : List (Nat × FSpec) := []
def wire_Read (k : Nat) (x0 : List Int) : Option ((List Int) × Int × Int) := ((slices_Clone_byte_byte k x0).bind fun r1 => some (r1, (0, 0)))
def wire_Read_spec : FSpec := ⟨[.imm (.slice (.int .u8))], [.fresh (.pair (.slice (.int .u8)) (.pair (.int .i64) (.int .i64)))], fun k x => wire_Read k x⟩
def wire_Read_parts : Parts := fun _ => none
def wire_Read_env : List (Nat × FSpec) := [(26, slices_Clone_byte_byte_spec)]
def wire_Reader_fine (k : Nat) (x0 : (List Int) × Int × Int) : Option (Bool × (List Int) × Int × Int) := some ((x0.2.2 == 0), x0)
def wire_Reader_fine_spec : FSpec := ⟨[.lent (.pair (.slice (.int .u8)) (.pair (.int .i64) (.int .i64)))], [.imm .bool, .back (.pair (.slice (.int .u8)) (.pair (.int .i64) (.int .i64)))], fun k x => wire_Reader_fine k x⟩
def wire_Reader_fine_parts : Parts := fun _ => none
def wire_Reader_fine_env : List (Nat × FSpec) := []
def wire_Reader_peek_p8 : Nat → Int → (List Int) → Int → Int → ((List Int) × Int × Int) → Option (((List Int) × Int × Int) ⊕ (Int × Int × (List Int) × Int × Int))
  | 0, _, _, _, _, _ => none
  | k + 1, v0, v1, v2, v3, v4 => (bif (decide (v3 < v2)) then ((at? v1 v3).bind fun e1 => (bif (v3 == 9) then (bif (decide (e1 > 1)) then some (.inl (v4.1, v4.2.1, v4.2.2)) else (bif (e1 == 0) then (bif (decide (v3 > 0)) then some (.inl (v4.1, v4.2.1, v4.2.2)) else (bif decide (0 ≤ (IntKind.wrap .i64 (7 * v3))) then (bif (decide (e1 < 128)) then some (.inr ((bitv .or .u64 v0 (shlv .u64 (IntKind.wrap .u64 (bitv .and .u8 e1 127)) (IntKind.wrap .i64 (7 * v3)))), (IntKind.wrap .i64 (v3 + 1)), (v4.1, v4.2.1, v4.2.2))) else wire_Reader_peek_p8 k (bitv .or .u64 v0 (shlv .u64 (IntKind.wrap .u64 (bitv .and .u8 e1 127)) (IntKind.wrap .i64 (7 * v3)))) v1 v2 (IntKind.wrap .i64 (v3 + 1)) (v4.1, v4.2.1, v4.2.2)) else none)) else (bif decide (0 ≤ (IntKind.wrap .i64 (7 * v3))) then (bif (decide (e1 < 128)) then some (.inr ((bitv .or .u64 v0 (shlv .u64 (IntKind.wrap .u64 (bitv .and .u8 e1 127)) (IntKind.wrap .i64 (7 * v3)))), (IntKind.wrap .i64 (v3 + 1)), (v4.1, v4.2.1, v4.2.2))) else wire_Reader_peek_p8 k (bitv .or .u64 v0 (shlv .u64 (IntKind.wrap .u64 (bitv .and .u8 e1 127)) (IntKind.wrap .i64 (7 * v3)))) v1 v2 (IntKind.wrap .i64 (v3 + 1)) (v4.1, v4.2.1, v4.2.2)) else none))) else (bif (e1 == 0) then (bif (decide (v3 > 0)) then some (.inl (v4.1, v4.2.1, v4.2.2)) else (bif decide (0 ≤ (IntKind.wrap .i64 (7 * v3))) then (bif (decide (e1 < 128)) then some (.inr ((bitv .or .u64 v0 (shlv .u64 (IntKind.wrap .u64 (bitv .and .u8 e1 127)) (IntKind.wrap .i64 (7 * v3)))), (IntKind.wrap .i64 (v3 + 1)), (v4.1, v4.2.1, v4.2.2))) else wire_Reader_peek_p8 k (bitv .or .u64 v0 (shlv .u64 (IntKind.wrap .u64 (bitv .and .u8 e1 127)) (IntKind.wrap .i64 (7 * v3)))) v1 v2 (IntKind.wrap .i64 (v3 + 1)) (v4.1, v4.2.1, v4.2.2)) else none)) else (bif decide (0 ≤ (IntKind.wrap .i64 (7 * v3))) then (bif (decide (e1 < 128)) then some (.inr ((bitv .or .u64 v0 (shlv .u64 (IntKind.wrap .u64 (bitv .and .u8 e1 127)) (IntKind.wrap .i64 (7 * v3)))), (IntKind.wrap .i64 (v3 + 1)), (v4.1, v4.2.1, v4.2.2))) else wire_Reader_peek_p8 k (bitv .or .u64 v0 (shlv .u64 (IntKind.wrap .u64 (bitv .and .u8 e1 127)) (IntKind.wrap .i64 (7 * v3)))) v1 v2 (IntKind.wrap .i64 (v3 + 1)) (v4.1, v4.2.1, v4.2.2)) else none)))) else some (.inl (v4.1, v4.2.1, v4.2.2)))
def wire_Reader_peek_u8 : Part := ⟨⟨[(0, .ptr 1000000 0)], [.val 4 (.int .u64), .val 15 (.slice (.int .u8)), .val 16 (.int .i64), .val 17 (.int .i64), .cells 1000000 [.dyn (.slice (.int .u8)), .dyn (.int .i64), .dyn (.int .i64)]]⟩, [(.exit 0, ⟨[(0, .ptr 1000000 0)], [.cells 1000000 [.dyn (.slice (.int .u8)), .dyn (.int .i64), .dyn (.int .i64)]]⟩), (.ret, ⟨[(0, .ptr 1000000 0)], [.val 2 (.int .u64), .val 3 (.int .i64), .cells 1000000 [.dyn (.slice (.int .u8)), .dyn (.int .i64), .dyn (.int .i64)]]⟩)], fun k x => wire_Reader_peek_p8 k x.1 x.2.1 x.2.2.1 x.2.2.2.1 x.2.2.2.2⟩
def wire_Reader_peek (k : Nat) (x0 : (List Int) × Int × Int) : Option (Int × Int × (List Int) × Int × Int) := (bif (decide ((0 : Int) ≤ x0.2.1) && decide (x0.2.1 ≤ ((x0.1).length : Int)) && decide (((x0.1).length : Int) ≤ ((x0.1).length : Int))) then ((wire_Reader_peek_p8 k 0 (cut x0.1 x0.2.1 ((x0.1).length : Int)) (((cut x0.1 x0.2.1 ((x0.1).length : Int))).length : Int) 0 (x0.1, x0.2.1, x0.2.2)).bind fun o2 => Sum.elim (fun a3 => some (0, 0, a3)) (fun b4 => some (b4.1, b4.2.1, b4.2.2)) o2) else none)
def wire_Reader_peek_spec : FSpec := ⟨[.lent (.pair (.slice (.int .u8)) (.pair (.int .i64) (.int .i64)))], [.imm (.int .u64), .imm (.int .i64), .back (.pair (.slice (.int .u8)) (.pair (.int .i64) (.int .i64)))], fun k x => wire_Reader_peek k x⟩
def wire_Reader_peek_parts : Parts := fun n => cond (Nat.beq n 8) (some wire_Reader_peek_u8) (none)
def wire_Reader_peek_env : List (Nat × FSpec) := []
def wire_Reader_fail (k : Nat) (x0 : (List Int) × Int × Int) (x1 : Int) : Option ((List Int) × Int × Int) := (bif (x0.2.2 == 0) then some (x0.1, (x0.2.1, x1)) else some x0)
def wire_Reader_fail_spec : FSpec := ⟨[.lent (.pair (.slice (.int .u8)) (.pair (.int .i64) (.int .i64))), .imm (.int .i64)], [.back (.pair (.slice (.int .u8)) (.pair (.int .i64) (.int .i64)))], fun k x => wire_Reader_fail k x.1 x.2⟩
def wire_Reader_fail_parts : Parts := fun _ => none
def wire_Reader_fail_env : List (Nat × FSpec) := []
def wire_Reader_Uvarint (k : Nat) (x0 : (List Int) × Int × Int) : Option (Int × (List Int) × Int × Int) := ((wire_Reader_fine k x0).bind fun r1 => (bif (!r1.1) then some (0, r1.2) else ((wire_Reader_peek k r1.2).bind fun r2 => (bif (r2.2.1 == 0) then ((wire_Reader_fail k r2.2.2 5).bind fun r3 => some (r2.1, (r3.1, ((IntKind.wrap .i64 (r3.2.1 + r2.2.1)), r3.2.2)))) else some (r2.1, (r2.2.2.1, ((IntKind.wrap .i64 (r2.2.2.2.1 + r2.2.1)), r2.2.2.2.2)))))))
def wire_Reader_Uvarint_spec : FSpec := ⟨[.lent (.pair (.slice (.int .u8)) (.pair (.int .i64) (.int .i64)))], [.imm (.int .u64), .back (.pair (.slice (.int .u8)) (.pair (.int .i64) (.int .i64)))], fun k x => wire_Reader_Uvarint k x⟩
def wire_Reader_Uvarint_parts : Parts := fun _ => none
def wire_Reader_Uvarint_env : List (Nat × FSpec) := [(27, wire_Reader_fine_spec), (28, wire_Reader_peek_spec), (29, wire_Reader_fail_spec)]
def wire_Reader_number (k : Nat) (x0 : (List Int) × Int × Int) (x1 : Int) : Option (Int × Int × (List Int) × Int × Int) := ((wire_Reader_fine k x0).bind fun r1 => (bif (!r1.1) then some (0, 0, r1.2) else ((wire_Reader_peek k r1.2).bind fun r2 => (bif (r2.2.1 == 0) then ((wire_Reader_fail k r2.2.2 5).bind fun r3 => some (0, 0, r3)) else (bif (decide (r2.1 > 9223372036854775807)) then ((wire_Reader_fail k r2.2.2 3).bind fun r4 => some (0, 0, r4)) else (bif (decide ((IntKind.wrap .i64 r2.1) > x1)) then ((wire_Reader_fail k r2.2.2 3).bind fun r5 => some (0, 0, r5)) else some ((IntKind.wrap .i64 r2.1), r2.2.1, r2.2.2)))))))
def wire_Reader_number_spec : FSpec := ⟨[.lent (.pair (.slice (.int .u8)) (.pair (.int .i64) (.int .i64))), .imm (.int .i64)], [.imm (.int .i64), .imm (.int .i64), .back (.pair (.slice (.int .u8)) (.pair (.int .i64) (.int .i64)))], fun k x => wire_Reader_number k x.1 x.2⟩
def wire_Reader_number_parts : Parts := fun _ => none
def wire_Reader_number_env : List (Nat × FSpec) := [(27, wire_Reader_fine_spec), (28, wire_Reader_peek_spec), (29, wire_Reader_fail_spec)]
def wire_Reader_Number (k : Nat) (x0 : (List Int) × Int × Int) (x1 : Int) : Option (Int × (List Int) × Int × Int) := ((wire_Reader_number k x0 x1).bind fun r1 => (bif (decide (r1.2.1 > 0)) then some (r1.1, (r1.2.2.1, ((IntKind.wrap .i64 (r1.2.2.2.1 + r1.2.1)), r1.2.2.2.2))) else some (r1.1, r1.2.2)))
def wire_Reader_Number_spec : FSpec := ⟨[.lent (.pair (.slice (.int .u8)) (.pair (.int .i64) (.int .i64))), .imm (.int .i64)], [.imm (.int .i64), .back (.pair (.slice (.int .u8)) (.pair (.int .i64) (.int .i64)))], fun k x => wire_Reader_Number k x.1 x.2⟩
def wire_Reader_Number_parts : Parts := fun _ => none
def wire_Reader_Number_env : List (Nat × FSpec) := [(30, wire_Reader_number_spec)]
def wire_Reader_Err (k : Nat) (x0 : (List Int) × Int × Int) : Option (Int × (List Int) × Int × Int) := some (x0.2.2, x0)
def wire_Reader_Err_spec : FSpec := ⟨[.lent (.pair (.slice (.int .u8)) (.pair (.int .i64) (.int .i64)))], [.imm (.int .i64), .back (.pair (.slice (.int .u8)) (.pair (.int .i64) (.int .i64)))], fun k x => wire_Reader_Err k x⟩
def wire_Reader_Err_parts : Parts := fun _ => none
def wire_Reader_Err_env : List (Nat × FSpec) := []
def wire_Reader_Left (k : Nat) (x0 : (List Int) × Int × Int) : Option (Int × (List Int) × Int × Int) := some ((IntKind.wrap .i64 (((x0.1).length : Int) - x0.2.1)), x0)
def wire_Reader_Left_spec : FSpec := ⟨[.lent (.pair (.slice (.int .u8)) (.pair (.int .i64) (.int .i64)))], [.imm (.int .i64), .back (.pair (.slice (.int .u8)) (.pair (.int .i64) (.int .i64)))], fun k x => wire_Reader_Left k x⟩
def wire_Reader_Left_parts : Parts := fun _ => none
def wire_Reader_Left_env : List (Nat × FSpec) := []
def wire_Reader_Done (k : Nat) (x0 : (List Int) × Int × Int) : Option (Int × (List Int) × Int × Int) := ((wire_Reader_Err k x0).bind fun r1 => (bif (r1.1 != 0) then some (r1.1, r1.2) else ((wire_Reader_Left k r1.2).bind fun r2 => (bif (decide (r2.1 > 0)) then some (5, r2.2) else some (0, r2.2)))))
def wire_Reader_Done_spec : FSpec := ⟨[.lent (.pair (.slice (.int .u8)) (.pair (.int .i64) (.int .i64)))], [.imm (.int .i64), .back (.pair (.slice (.int .u8)) (.pair (.int .i64) (.int .i64)))], fun k x => wire_Reader_Done k x⟩
def wire_Reader_Done_parts : Parts := fun _ => none
def wire_Reader_Done_env : List (Nat × FSpec) := [(31, wire_Reader_Err_spec), (32, wire_Reader_Left_spec)]
def oracle_Decode (k : Nat) (x0 : List Int) : Option ((Int × Int × Bool) × Int) := ((wire_Read k x0).bind fun r1 => ((wire_Reader_Uvarint k r1).bind fun r2 => ((wire_Reader_Uvarint k r2.2).bind fun r3 => ((wire_Reader_Number k r3.2 1).bind fun r4 => ((wire_Reader_Done k r4.2).bind fun r5 => (bif (r5.1 != 0) then some ((0, (0, false)), 5) else ((oracle_Check k (r2.1, (r3.1, (r4.1 == 1)))).bind fun r6 => (bif (r6 != 0) then some ((0, (0, false)), 5) else some ((r2.1, (r3.1, (r4.1 == 1))), 0)))))))))
def oracle_Decode_spec : FSpec := ⟨[.imm (.slice (.int .u8))], [.agg (.pair (.int .u64) (.pair (.int .u64) .bool)), .imm (.int .i64)], fun k x => oracle_Decode k x⟩
def oracle_Decode_parts : Parts := fun _ => none
def oracle_Decode_env : List (Nat × FSpec) := [(18, wire_Read_spec), (19, wire_Reader_Uvarint_spec), (20, wire_Reader_Number_spec), (21, wire_Reader_Done_spec), (17, oracle_Check_spec)]
def ref02_next (k : Nat) (x0 : (List Int) × Int × Int) : Option (Int × Bool × (List Int) × Int × Int) := (bif (x0.2.2 != 0) then some (0, false, x0) else (bif (decide (x0.2.1 ≥ ((x0.1).length : Int))) then some (0, false, x0) else ((at? x0.1 (IntKind.wrap .i64 ((IntKind.wrap .i64 (x0.2.1 + 1)) - 1))).bind fun e1 => some (e1, true, (x0.1, ((IntKind.wrap .i64 (x0.2.1 + 1)), x0.2.2))))))
def ref02_next_spec : FSpec := ⟨[.lent (.pair (.slice (.int .u8)) (.pair (.int .i64) (.int .i64)))], [.imm (.int .u8), .imm .bool, .back (.pair (.slice (.int .u8)) (.pair (.int .i64) (.int .i64)))], fun k x => ref02_next k x⟩
def ref02_next_parts : Parts := fun _ => none
def ref02_next_env : List (Nat × FSpec) := []
def ref02_wrong (k : Nat) (x0 : (List Int) × Int × Int) (x1 : Int) (x2 : Int) : Option ((List Int) × Int × Int) := (bif (x0.2.2 == 0) then some (x0.1, (x2, x1)) else some x0)
def ref02_wrong_spec : FSpec := ⟨[.lent (.pair (.slice (.int .u8)) (.pair (.int .i64) (.int .i64))), .imm (.int .i64), .imm (.int .i64)], [.back (.pair (.slice (.int .u8)) (.pair (.int .i64) (.int .i64)))], fun k x => ref02_wrong k x.1 x.2.1 x.2.2⟩
def ref02_wrong_parts : Parts := fun _ => none
def ref02_wrong_env : List (Nat × FSpec) := []
def ref02_ReadUvarint_p10 : Nat → Int → Int → Int → ((List Int) × Int × Int) → Option ((Int × (List Int) × Int × Int) ⊕ (Int × (List Int) × Int × Int))
  | 0, _, _, _, _ => none
  | k + 1, v0, v1, v2, v3 => (bif (decide (v2 < 10)) then ((ref02_next k v3).bind fun r1 => (bif (!r1.2.1) then some (.inl (v0, (r1.2.2.1, r1.2.2.2.1, r1.2.2.2.2))) else (bif (v2 == 9) then (bif (decide ((IntKind.wrap .u64 (Int.tmod r1.1 128)) > 1)) then some (.inl (v0, (r1.2.2.1, r1.2.2.2.1, r1.2.2.2.2))) else (bif decide (0 ≤ (IntKind.wrap .u64 (IntKind.wrap .i64 (7 * v2)))) then (bif (decide (r1.1 < 128)) then (bif (r1.1 == 0) then (bif (decide (v2 > 0)) then some (.inl (v0, (r1.2.2.1, r1.2.2.2.1, r1.2.2.2.2))) else some (.inr ((bitv .or .u64 v1 (shlv .u64 (IntKind.wrap .u64 (Int.tmod r1.1 128)) (IntKind.wrap .u64 (IntKind.wrap .i64 (7 * v2))))), (r1.2.2.1, r1.2.2.2.1, r1.2.2.2.2)))) else some (.inr ((bitv .or .u64 v1 (shlv .u64 (IntKind.wrap .u64 (Int.tmod r1.1 128)) (IntKind.wrap .u64 (IntKind.wrap .i64 (7 * v2))))), (r1.2.2.1, r1.2.2.2.1, r1.2.2.2.2)))) else ref02_ReadUvarint_p10 k v0 (bitv .or .u64 v1 (shlv .u64 (IntKind.wrap .u64 (Int.tmod r1.1 128)) (IntKind.wrap .u64 (IntKind.wrap .i64 (7 * v2))))) (IntKind.wrap .i64 (v2 + 1)) (r1.2.2.1, r1.2.2.2.1, r1.2.2.2.2)) else none)) else (bif decide (0 ≤ (IntKind.wrap .u64 (IntKind.wrap .i64 (7 * v2)))) then (bif (decide (r1.1 < 128)) then (bif (r1.1 == 0) then (bif (decide (v2 > 0)) then some (.inl (v0, (r1.2.2.1, r1.2.2.2.1, r1.2.2.2.2))) else some (.inr ((bitv .or .u64 v1 (shlv .u64 (IntKind.wrap .u64 (Int.tmod r1.1 128)) (IntKind.wrap .u64 (IntKind.wrap .i64 (7 * v2))))), (r1.2.2.1, r1.2.2.2.1, r1.2.2.2.2)))) else some (.inr ((bitv .or .u64 v1 (shlv .u64 (IntKind.wrap .u64 (Int.tmod r1.1 128)) (IntKind.wrap .u64 (IntKind.wrap .i64 (7 * v2))))), (r1.2.2.1, r1.2.2.2.1, r1.2.2.2.2)))) else ref02_ReadUvarint_p10 k v0 (bitv .or .u64 v1 (shlv .u64 (IntKind.wrap .u64 (Int.tmod r1.1 128)) (IntKind.wrap .u64 (IntKind.wrap .i64 (7 * v2))))) (IntKind.wrap .i64 (v2 + 1)) (r1.2.2.1, r1.2.2.2.1, r1.2.2.2.2)) else none)))) else some (.inl (v0, (v3.1, v3.2.1, v3.2.2))))
def ref02_ReadUvarint_u10 : Part := ⟨⟨[(0, .ptr 1000000 0)], [.val 3 (.int .i64), .val 4 (.int .u64), .val 5 (.int .i64), .cells 1000000 [.dyn (.slice (.int .u8)), .dyn (.int .i64), .dyn (.int .i64)]]⟩, [(.exit 0, ⟨[(0, .ptr 1000000 0)], [.val 3 (.int .i64), .cells 1000000 [.dyn (.slice (.int .u8)), .dyn (.int .i64), .dyn (.int .i64)]]⟩), (.ret, ⟨[(0, .ptr 1000000 0)], [.val 2 (.int .u64), .cells 1000000 [.dyn (.slice (.int .u8)), .dyn (.int .i64), .dyn (.int .i64)]]⟩)], fun k x => ref02_ReadUvarint_p10 k x.1 x.2.1 x.2.2.1 x.2.2.2⟩
def ref02_ReadUvarint (k : Nat) (x0 : (List Int) × Int × Int) : Option (Int × (List Int) × Int × Int) := ((ref02_ReadUvarint_p10 k x0.2.1 0 0 (x0.1, x0.2.1, x0.2.2)).bind fun o2 => Sum.elim (fun a3 => ((ref02_wrong k a3.2 5 a3.1).bind fun r5 => some (0, r5))) (fun b4 => some (b4.1, b4.2)) o2)
def ref02_ReadUvarint_spec : FSpec := ⟨[.lent (.pair (.slice (.int .u8)) (.pair (.int .i64) (.int .i64)))], [.imm (.int .u64), .back (.pair (.slice (.int .u8)) (.pair (.int .i64) (.int .i64)))], fun k x => ref02_ReadUvarint k x⟩
def ref02_ReadUvarint_parts : Parts := fun n => cond (Nat.beq n 10) (some ref02_ReadUvarint_u10) (none)
def ref02_ReadUvarint_env : List (Nat × FSpec) := [(33, ref02_next_spec), (34, ref02_wrong_spec)]
def ref02_ReadNumber (k : Nat) (x0 : (List Int) × Int × Int) (x1 : Int) : Option (Int × (List Int) × Int × Int) := ((ref02_ReadUvarint k x0).bind fun r1 => (bif (r1.2.2.2 != 0) then some (0, r1.2) else (bif (decide (x1 < 0)) then ((ref02_wrong k r1.2 3 x0.2.1).bind fun r2 => some (0, r2)) else (bif (decide (r1.1 > (IntKind.wrap .u64 x1))) then ((ref02_wrong k r1.2 3 x0.2.1).bind fun r3 => some (0, r3)) else some ((IntKind.wrap .i64 r1.1), r1.2)))))
def ref02_ReadNumber_spec : FSpec := ⟨[.lent (.pair (.slice (.int .u8)) (.pair (.int .i64) (.int .i64))), .imm (.int .i64)], [.imm (.int .i64), .back (.pair (.slice (.int .u8)) (.pair (.int .i64) (.int .i64)))], fun k x => ref02_ReadNumber k x.1 x.2⟩
def ref02_ReadNumber_parts : Parts := fun _ => none
def ref02_ReadNumber_env : List (Nat × FSpec) := [(22, ref02_ReadUvarint_spec), (34, ref02_wrong_spec)]
def ref18_May (k : Nat) (x0 : Int × Int × Bool) : Option Bool := (bif (x0.1 == 0) then some false else (bif (decide ((IntKind.wrap .u64 (x0.1 - 1)) > x0.2.1)) then some false else (bif (!x0.2.2) then some true else (bif (x0.1 == 18446744073709551615) then some (x0.2.1 == 18446744073709551615) else some false))))
def ref18_May_spec : FSpec := ⟨[.agg (.pair (.int .u64) (.pair (.int .u64) .bool))], [.imm .bool], fun k x => ref18_May k x⟩
def ref18_May_parts : Parts := fun _ => none
def ref18_May_env : List (Nat × FSpec) := []
def ref02_Uvarint_p6 : Nat → Int → (List Int) → Option ((Int × List Int))
  | 0, _, _ => none
  | k + 1, v0, v1 => (bif (decide (v0 ≥ 128)) then (bif room ((v1 ++ [(IntKind.wrap .u8 ((IntKind.wrap .u8 (Int.tmod v0 128)) + 128))])).length 1 then ref02_Uvarint_p6 k (IntKind.wrap .u64 (Int.tdiv v0 128)) (v1 ++ [(IntKind.wrap .u8 ((IntKind.wrap .u8 (Int.tmod v0 128)) + 128))]) else none) else some (v0, v1))
def ref02_Uvarint_u6 : Part := ⟨⟨[(3, .sref 500001)], [.val 0 (.int .u64), .arr 500001 (.int .u8)]⟩, [(.exit 0, ⟨[(3, .sref 500001)], [.val 0 (.int .u64), .arr 500001 (.int .u8)]⟩)], fun k x => ref02_Uvarint_p6 k x.1 x.2⟩
def ref02_Uvarint (k : Nat) (x0 : Int) : Option (List Int) := ((ref02_Uvarint_p6 k x0 []).bind fun o1 => (bif room ((o1.2 ++ [(IntKind.wrap .u8 o1.1)])).length 1 then some (o1.2 ++ [(IntKind.wrap .u8 o1.1)]) else none))
def ref02_Uvarint_spec : FSpec := ⟨[.imm (.int .u64)], [.own (.int .u8)], fun k x => ref02_Uvarint k x⟩
def ref02_Uvarint_parts : Parts := fun n => cond (Nat.beq n 6) (some ref02_Uvarint_u6) (none)
def ref02_Uvarint_env : List (Nat × FSpec) := []
def ref18_Encode (k : Nat) (x0 : Int × Int × Bool) : Option (List Int) := ((ref02_Uvarint k x0.1).bind fun r1 => ((ref02_Uvarint k x0.2.1).bind fun r2 => (bif room ((r1 ++ r2)).length 1 then (bif x0.2.2 then (bif room (((r1 ++ r2) ++ [1])).length 1 then some ((r1 ++ r2) ++ [1]) else none) else (bif room (((r1 ++ r2) ++ [0])).length 1 then some ((r1 ++ r2) ++ [0]) else none)) else none)))
def ref18_Encode_spec : FSpec := ⟨[.agg (.pair (.int .u64) (.pair (.int .u64) .bool))], [.own (.int .u8)], fun k x => ref18_Encode k x⟩
def ref18_Encode_parts : Parts := fun _ => none
def ref18_Encode_env : List (Nat × FSpec) := [(25, ref02_Uvarint_spec)]
def ref18_Decode (k : Nat) (x0 : List Int) : Option ((Int × Int × Bool) × Bool) := ((ref02_ReadUvarint k (x0, (0, 0))).bind fun r1 => ((ref02_ReadUvarint k r1.2).bind fun r2 => ((ref02_ReadNumber k r2.2 1).bind fun r3 => ((ref18_May k (r1.1, (r2.1, (r3.1 == 1)))).bind fun r4 => (bif (!r4) then some ((0, (0, false)), false) else ((ref18_Encode k (r1.1, (r2.1, (r3.1 == 1)))).bind fun r5 => (bif (!((toBytes r5) == (toBytes x0))) then some ((0, (0, false)), false) else some ((r1.1, (r2.1, (r3.1 == 1))), true))))))))
def ref18_Decode_spec : FSpec := ⟨[.imm (.slice (.int .u8))], [.agg (.pair (.int .u64) (.pair (.int .u64) .bool)), .imm .bool], fun k x => ref18_Decode k x⟩
def ref18_Decode_parts : Parts := fun _ => none
def ref18_Decode_env : List (Nat × FSpec) := [(22, ref02_ReadUvarint_spec), (23, ref02_ReadNumber_spec), (6, ref18_May_spec), (14, ref18_Encode_spec)]
def law18_OracleDecodes (k : Nat) (x0 : List Int) : Option Bool := (bif (decide (((x0).length : Int) > 100)) then ((law18_awake k ).bind fun r1 => some r1) else (bif room (([] ++ x0)).length 1 then ((oracle_Decode k ([] ++ x0)).bind fun r2 => ((ref18_Decode k x0).bind fun r3 => (bif ((r2.2 == 0) == r3.2) then (bif r3.2 then (bif (T.eqb (.pair (.int .u64) (.pair (.int .u64) .bool)) r2.1 r3.1) then ((law18_awake k ).bind fun r4 => some r4) else some false) else (bif (r2.2 == 5) then (bif (T.eqb (.pair (.int .u64) (.pair (.int .u64) .bool)) r2.1 r3.1) then ((law18_awake k ).bind fun r5 => some r5) else some false) else some false)) else some false))) else none))
def law18_OracleDecodes_spec : FSpec := ⟨[.imm (.slice (.int .u8))], [.imm .bool], fun k x => law18_OracleDecodes k x⟩
def law18_OracleDecodes_parts : Parts := fun _ => none
def law18_OracleDecodes_env : List (Nat × FSpec) := [(7, law18_awake_spec), (11, oracle_Decode_spec), (12, ref18_Decode_spec)]
def wire_own (k : Nat) (x0 : List Int) : Option (List Int) := (bif (true && decide ((0 : Int) ≤ ((x0).length : Int)) && decide (((x0).length : Int) ≤ ((x0).length : Int))) then (bif (((x0).length : Int) == ((x0).length : Int)) then some (cut x0 0 ((x0).length : Int)) else none) else none)
def wire_own_spec : FSpec := ⟨[.imm (.slice (.int .u8))], [.full (.int .u8)], fun k x => wire_own k x⟩
def wire_own_parts : Parts := fun _ => none
def wire_own_env : List (Nat × FSpec) := []
def wire_Uvarint_p6 : Nat → Int → (List Int) → Option ((Int × List Int))
  | 0, _, _ => none
  | k + 1, v0, v1 => (bif (decide (v0 ≥ 128)) then (bif room ((v1 ++ [(bitv .or .u8 (IntKind.wrap .u8 v0) 128)])).length 1 then wire_Uvarint_p6 k (shrv .u64 v0 7) (v1 ++ [(bitv .or .u8 (IntKind.wrap .u8 v0) 128)]) else none) else some (v0, v1))
def wire_Uvarint_u6 : Part := ⟨⟨[(0, .sref 500001)], [.val 1 (.int .u64), .app 500001 (.int .u8)]⟩, [(.exit 0, ⟨[(0, .sref 500001)], [.val 1 (.int .u64), .app 500001 (.int .u8)]⟩)], fun k x => wire_Uvarint_p6 k x.1 x.2⟩
def wire_Uvarint (k : Nat) (x0 : List Int) (x1 : Int) : Option (List Int) := ((wire_own k x0).bind fun r1 => ((wire_Uvarint_p6 k x1 r1).bind fun o2 => (bif room ((o2.2 ++ [(IntKind.wrap .u8 o2.1)])).length 1 then some (o2.2 ++ [(IntKind.wrap .u8 o2.1)]) else none)))
def wire_Uvarint_spec : FSpec := ⟨[.imm (.slice (.int .u8)), .imm (.int .u64)], [.own (.int .u8)], fun k x => wire_Uvarint k x.1 x.2⟩
def wire_Uvarint_parts : Parts := fun n => cond (Nat.beq n 6) (some wire_Uvarint_u6) (none)
def wire_Uvarint_env : List (Nat × FSpec) := [(35, wire_own_spec)]
def oracle_Encode (k : Nat) (x0 : Int × Int × Bool) : Option ((List Int) × Int) := ((oracle_Check k x0).bind fun r1 => (bif (r1 != 0) then some ([], r1) else (bif x0.2.2 then ((wire_Uvarint k [] x0.1).bind fun r2 => ((wire_Uvarint k r2 x0.2.1).bind fun r3 => ((wire_Uvarint k r3 1).bind fun r4 => some (r4, 0)))) else ((wire_Uvarint k [] x0.1).bind fun r5 => ((wire_Uvarint k r5 x0.2.1).bind fun r6 => ((wire_Uvarint k r6 0).bind fun r7 => some (r7, 0)))))))
def oracle_Encode_spec : FSpec := ⟨[.agg (.pair (.int .u64) (.pair (.int .u64) .bool))], [.own (.int .u8), .imm (.int .i64)], fun k x => oracle_Encode k x⟩
def oracle_Encode_parts : Parts := fun _ => none
def oracle_Encode_env : List (Nat × FSpec) := [(17, oracle_Check_spec), (24, wire_Uvarint_spec)]
def law18_OracleCodes (k : Nat) (x0 : Int × Int × Bool) : Option Bool := ((oracle_Encode k x0).bind fun r1 => ((ref18_May k x0).bind fun r2 => (bif (!r2) then (bif (r1.2 == 1) then (bif (((r1.1).length : Int) == 0) then ((law18_awake k ).bind fun r3 => some r3) else some false) else some false) else ((oracle_Decode k r1.1).bind fun r4 => (bif (r1.2 == 0) then ((ref18_Encode k x0).bind fun r5 => (bif ((toBytes r1.1) == (toBytes r5)) then (bif (r4.2 == 0) then (bif (T.eqb (.pair (.int .u64) (.pair (.int .u64) .bool)) r4.1 x0) then ((law18_awake k ).bind fun r6 => some r6) else some false) else some false) else some false)) else some false)))))
def law18_OracleCodes_spec : FSpec := ⟨[.agg (.pair (.int .u64) (.pair (.int .u64) .bool))], [.imm .bool], fun k x => law18_OracleCodes k x⟩
def law18_OracleCodes_parts : Parts := fun _ => none
def law18_OracleCodes_env : List (Nat × FSpec) := [(13, oracle_Encode_spec), (6, ref18_May_spec), (7, law18_awake_spec), (11, oracle_Decode_spec), (14, ref18_Encode_spec)]
end Go.Proofs.Ytlmfnbcnfhiheaa.gg
