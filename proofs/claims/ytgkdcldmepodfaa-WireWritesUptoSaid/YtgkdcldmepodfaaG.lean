/- What the functions compute, and that the code does so: printed by a program of our own. -/
import Derived.Test.YtgkdcldmepodfaaL1
import Derived.Test.YtgkdcldmepodfaaProg
import Derived.KernelRfl
open Go Go.GG Go.Proofs
set_option linter.unusedVariables false
namespace Go.Proofs.Ytgkdcldmepodfaa.gg
def tab : Tab := [(2, ⟨.int .i64, 1, 8, [.int .i64 0], some (.int .i64), false⟩),
  (3, ⟨.int .i64, 1, 8, [.int .i64 0], some (.int .i64), false⟩),
  (5, ⟨.int .u8, 1, 1, [.int .u8 0], some (.int .u8), false⟩),
  (9, ⟨.str, 1, 16, [.string ⟨#[]⟩], some .str, false⟩),
  (22, ⟨.slice 5, 1, 24, [.slice none 0 0], some (.slice (.int .u8)), false⟩),
  (23, ⟨.slice 28, 1, 24, [.slice none 0 0], some (.slice (.pair (.int .i64) (.pair (.int .u64) (.pair (.slice (.int .u8)) (.int .i64))))), false⟩),
  (26, ⟨.int .u64, 1, 8, [.int .u64 0], some (.int .u64), false⟩),
  (28, ⟨.struct [(3, 0), (26, 1), (22, 2), (3, 3)], 4, 48, [.int .i64 0, .int .u64 0, .slice none 0 0, .int .i64 0], some (.pair (.int .i64) (.pair (.int .u64) (.pair (.slice (.int .u8)) (.int .i64)))), false⟩),
  (42, ⟨.int .u32, 1, 4, [.int .u32 0], some (.int .u32), false⟩),
  (60, ⟨.int .u64, 1, 8, [.int .u64 0], some (.int .u64), false⟩)]
set_option maxRecDepth 100000 in
theorem tabOk : TabOk Try.prog tab := (tabOk_cons ⟨by kernel_rfl, by kernel_rfl, rfl, fun h => by cases h⟩ (tabOk_cons ⟨by kernel_rfl, by kernel_rfl, rfl, fun h => by cases h⟩ (tabOk_cons ⟨by kernel_rfl, by kernel_rfl, rfl, fun h => by cases h⟩ (tabOk_cons ⟨by kernel_rfl, by kernel_rfl, rfl, fun h => by cases h⟩ (tabOk_cons ⟨by kernel_rfl, by kernel_rfl, rfl, fun h => by cases h⟩ (tabOk_cons ⟨by kernel_rfl, by kernel_rfl, rfl, fun h => by cases h⟩ (tabOk_cons ⟨by kernel_rfl, by kernel_rfl, rfl, fun h => by cases h⟩ (tabOk_cons ⟨by kernel_rfl, by kernel_rfl, rfl, fun h => by cases h⟩ (tabOk_cons ⟨by kernel_rfl, by kernel_rfl, rfl, fun h => by cases h⟩ (tabOk_cons ⟨by kernel_rfl, by kernel_rfl, rfl, fun h => by cases h⟩ tabOk_nil))))))))))
theorem mixed : Try.prog.follows .mixedOrders = true := by kernel_rfl
def wire_own (k : Nat) (x0 : List Int) : Option (List Int) := (bif (true && decide ((0 : Int) ≤ ((x0).length : Int)) && decide (((x0).length : Int) ≤ ((x0).length : Int))) then (bif (((x0).length : Int) == ((x0).length : Int)) then some (cut x0 0 ((x0).length : Int)) else none) else none)
def wire_own_spec : FSpec := ⟨[.imm (.slice (.int .u8))], [.full (.int .u8)], fun k x => wire_own k x⟩
def wire_own_parts : Parts := fun _ => none
def wire_own_env : List (Nat × FSpec) := []
def wire_Uvarint_p6 : Nat → Int → (List Int) → Option ((Int × List Int))
  | 0, _, _ => none
  | k + 1, v0, v1 => (bif (decide (v0 ≥ 128)) then (bif room ((v1 ++ [(bitv .or .u8 (IntKind.wrap .u8 v0) 128)])).length 1 then wire_Uvarint_p6 k (shrv .u64 v0 7) (v1 ++ [(bitv .or .u8 (IntKind.wrap .u8 v0) 128)]) else none) else some (v0, v1))
def wire_Uvarint_u6 : Part := ⟨⟨[(0, .sref 500001)], [.val 1 (.int .u64), .app 500001 (.int .u8)]⟩, [(.exit 0, ⟨[(0, .sref 500001)], [.val 1 (.int .u64), .app 500001 (.int .u8)]⟩)], fun k x => wire_Uvarint_p6 k x.1 x.2⟩
def wire_Uvarint (k : Nat) (x0 : List Int) (x1 : Int) : Option (List Int) := ((wire_own k x0).bind fun r1 => ((wire_Uvarint_p6 k x1 r1).bind fun o2 => (bif room ((o2.2 ++ [(IntKind.wrap .u8 o2.1)])).length 1 then some (o2.2 ++ [(IntKind.wrap .u8 o2.1)]) else none)))
def wire_Uvarint_spec : FSpec := ⟨[.imm (.slice (.int .u8)), .imm (.int .u64)], [.own (.int .u8)], fun k x => wire_Uvarint k x.1 x.2⟩
def wire_Uvarint_parts : Parts := fun n => cond (Nat.beq n 6) (some wire_Uvarint_u6) (none)
def wire_Uvarint_env : List (Nat × FSpec) := [(34, wire_own_spec)]
def ref02_Uvarint_p6 : Nat → Int → (List Int) → Option ((Int × List Int))
  | 0, _, _ => none
  | k + 1, v0, v1 => (bif (decide (v0 ≥ 128)) then (bif room ((v1 ++ [(IntKind.wrap .u8 ((IntKind.wrap .u8 (Int.tmod v0 128)) + 128))])).length 1 then ref02_Uvarint_p6 k (IntKind.wrap .u64 (Int.tdiv v0 128)) (v1 ++ [(IntKind.wrap .u8 ((IntKind.wrap .u8 (Int.tmod v0 128)) + 128))]) else none) else some (v0, v1))
def ref02_Uvarint_u6 : Part := ⟨⟨[(3, .sref 500001)], [.val 0 (.int .u64), .arr 500001 (.int .u8)]⟩, [(.exit 0, ⟨[(3, .sref 500001)], [.val 0 (.int .u64), .arr 500001 (.int .u8)]⟩)], fun k x => ref02_Uvarint_p6 k x.1 x.2⟩
def ref02_Uvarint (k : Nat) (x0 : Int) : Option (List Int) := ((ref02_Uvarint_p6 k x0 []).bind fun o1 => (bif room ((o1.2 ++ [(IntKind.wrap .u8 o1.1)])).length 1 then some (o1.2 ++ [(IntKind.wrap .u8 o1.1)]) else none))
def ref02_Uvarint_spec : FSpec := ⟨[.imm (.int .u64)], [.own (.int .u8)], fun k x => ref02_Uvarint k x⟩
def ref02_Uvarint_parts : Parts := fun n => cond (Nat.beq n 6) (some ref02_Uvarint_u6) (none)
def ref02_Uvarint_env : List (Nat × FSpec) := []
def wire_Varint (k : Nat) (x0 : List Int) (x1 : Int) : Option (List Int) := ((wire_Uvarint k x0 (bitv .xor .u64 (IntKind.wrap .u64 (shlv .i64 x1 1)) (IntKind.wrap .u64 (shrv .i64 x1 63)))).bind fun r1 => some r1)
def wire_Varint_spec : FSpec := ⟨[.imm (.slice (.int .u8)), .imm (.int .i64)], [.own (.int .u8)], fun k x => wire_Varint k x.1 x.2⟩
def wire_Varint_parts : Parts := fun _ => none
def wire_Varint_env : List (Nat × FSpec) := [(14, wire_Uvarint_spec)]
def ref02_Varint (k : Nat) (x0 : Int) : Option (List Int) := (bif (decide (x0 < 0)) then ((ref02_Uvarint k (IntKind.wrap .u64 ((IntKind.wrap .u64 ((IntKind.wrap .u64 (IntKind.wrap .i64 (0 - (IntKind.wrap .i64 (x0 + 1))))) * 2)) + 1))).bind fun r1 => some r1) else ((ref02_Uvarint k (IntKind.wrap .u64 ((IntKind.wrap .u64 x0) * 2))).bind fun r2 => some r2))
def ref02_Varint_spec : FSpec := ⟨[.imm (.int .i64)], [.own (.int .u8)], fun k x => ref02_Varint k x⟩
def ref02_Varint_parts : Parts := fun _ => none
def ref02_Varint_env : List (Nat × FSpec) := [(23, ref02_Uvarint_spec)]
def wire_Fixed4 (k : Nat) (x0 : List Int) (x1 : Int) : Option (List Int) := ((wire_own k x0).bind fun r1 => (bif room ((r1 ++ [(IntKind.wrap .u8 x1), (IntKind.wrap .u8 (shrv .u32 x1 8)), (IntKind.wrap .u8 (shrv .u32 x1 16)), (IntKind.wrap .u8 (shrv .u32 x1 24))])).length 1 then some (r1 ++ [(IntKind.wrap .u8 x1), (IntKind.wrap .u8 (shrv .u32 x1 8)), (IntKind.wrap .u8 (shrv .u32 x1 16)), (IntKind.wrap .u8 (shrv .u32 x1 24))]) else none))
def wire_Fixed4_spec : FSpec := ⟨[.imm (.slice (.int .u8)), .imm (.int .u32)], [.own (.int .u8)], fun k x => wire_Fixed4 k x.1 x.2⟩
def wire_Fixed4_parts : Parts := fun _ => none
def wire_Fixed4_env : List (Nat × FSpec) := [(34, wire_own_spec)]
def ref02_Fixed_p8 : Nat → Int → Int → Int → (List Int) → Option ((List Int))
  | 0, _, _, _, _ => none
  | k + 1, v0, v1, v2, v3 => (bif (decide (v2 < v1)) then (bif decide (0 ≤ (IntKind.wrap .u64 (IntKind.wrap .i64 (8 * v2)))) then (bif room ((v3 ++ [(IntKind.wrap .u8 (shrv .u64 v0 (IntKind.wrap .u64 (IntKind.wrap .i64 (8 * v2)))))])).length 1 then ref02_Fixed_p8 k v0 v1 (IntKind.wrap .i64 (v2 + 1)) (v3 ++ [(IntKind.wrap .u8 (shrv .u64 v0 (IntKind.wrap .u64 (IntKind.wrap .i64 (8 * v2)))))]) else none) else none) else some v3)
def ref02_Fixed_u8 : Part := ⟨⟨[(5, .sref 500001)], [.val 0 (.int .u64), .val 1 (.int .i64), .val 6 (.int .i64), .arr 500001 (.int .u8)]⟩, [(.exit 0, ⟨[(5, .sref 500001)], [.arr 500001 (.int .u8)]⟩)], fun k x => ref02_Fixed_p8 k x.1 x.2.1 x.2.2.1 x.2.2.2⟩
def ref02_Fixed (k : Nat) (x0 : Int) (x1 : Int) : Option (List Int) := ((ref02_Fixed_p8 k x0 x1 0 []).bind fun o1 => some o1)
def ref02_Fixed_spec : FSpec := ⟨[.imm (.int .u64), .imm (.int .i64)], [.own (.int .u8)], fun k x => ref02_Fixed k x.1 x.2⟩
def ref02_Fixed_parts : Parts := fun n => cond (Nat.beq n 8) (some ref02_Fixed_u8) (none)
def ref02_Fixed_env : List (Nat × FSpec) := []
def wire_Fixed8 (k : Nat) (x0 : List Int) (x1 : Int) : Option (List Int) := ((wire_Fixed4 k x0 (IntKind.wrap .u32 x1)).bind fun r1 => ((wire_Fixed4 k r1 (IntKind.wrap .u32 (shrv .u64 x1 32))).bind fun r2 => some r2))
def wire_Fixed8_spec : FSpec := ⟨[.imm (.slice (.int .u8)), .imm (.int .u64)], [.own (.int .u8)], fun k x => wire_Fixed8 k x.1 x.2⟩
def wire_Fixed8_parts : Parts := fun _ => none
def wire_Fixed8_env : List (Nat × FSpec) := [(25, wire_Fixed4_spec)]
def wire_Bytes (k : Nat) (x0 : List Int) (x1 : List Int) : Option (List Int) := ((wire_Uvarint k x0 (IntKind.wrap .u64 ((x1).length : Int))).bind fun r1 => (bif room ((r1 ++ x1)).length 1 then some (r1 ++ x1) else none))
def wire_Bytes_spec : FSpec := ⟨[.imm (.slice (.int .u8)), .imm (.slice (.int .u8))], [.own (.int .u8)], fun k x => wire_Bytes k x.1 x.2⟩
def wire_Bytes_parts : Parts := fun _ => none
def wire_Bytes_env : List (Nat × FSpec) := [(14, wire_Uvarint_spec)]
def ref02_Bytes (k : Nat) (x0 : List Int) : Option (List Int) := ((ref02_Uvarint k (IntKind.wrap .u64 ((x0).length : Int))).bind fun r1 => (bif room ((r1 ++ x0)).length 1 then some (r1 ++ x0) else none))
def ref02_Bytes_spec : FSpec := ⟨[.imm (.slice (.int .u8))], [.own (.int .u8)], fun k x => ref02_Bytes k x⟩
def ref02_Bytes_parts : Parts := fun _ => none
def ref02_Bytes_env : List (Nat × FSpec) := [(23, ref02_Uvarint_spec)]
def law02_written (k : Nat) (x0 : List Int) (x1 : Int × Int × (List Int) × Int) : Option ((List Int) × List Int) := (bif (x1.1 == 0) then ((wire_Uvarint k x0 x1.2.1).bind fun r1 => ((ref02_Uvarint k x1.2.1).bind fun r2 => some (r1, r2))) else (bif (x1.1 == 1) then ((wire_Varint k x0 (IntKind.wrap .i64 x1.2.1)).bind fun r3 => ((ref02_Varint k (IntKind.wrap .i64 x1.2.1)).bind fun r4 => some (r3, r4))) else (bif (x1.1 == 2) then ((wire_Fixed4 k x0 (IntKind.wrap .u32 x1.2.1)).bind fun r5 => ((ref02_Fixed k (bitv .and .u64 x1.2.1 4294967295) 4).bind fun r6 => some (r5, r6))) else (bif (x1.1 == 3) then ((wire_Fixed8 k x0 x1.2.1).bind fun r7 => ((ref02_Fixed k x1.2.1 8).bind fun r8 => some (r7, r8))) else (bif (x1.1 == 6) then (bif room (x1.2.2.1).length 1 then ((wire_Bytes k x0 x1.2.2.1).bind fun r9 => ((ref02_Bytes k x1.2.2.1).bind fun r10 => some (r9, r10))) else none) else some (x0, []))))))
def law02_written_spec : FSpec := ⟨[.imm (.slice (.int .u8)), .agg (.pair (.int .i64) (.pair (.int .u64) (.pair (.slice (.int .u8)) (.int .i64))))], [.imm (.slice (.int .u8)), .own (.int .u8)], fun k x => law02_written k x.1 x.2⟩
def law02_written_parts : Parts := fun _ => none
def law02_written_env : List (Nat × FSpec) := [(14, wire_Uvarint_spec), (23, ref02_Uvarint_spec), (16, wire_Varint_spec), (24, ref02_Varint_spec), (25, wire_Fixed4_spec), (26, ref02_Fixed_spec), (27, wire_Fixed8_spec), (28, wire_Bytes_spec), (29, ref02_Bytes_spec)]
def law02_same (k : Nat) (x0 : List Int) (x1 : List Int) : Option Bool := some ((toBytes x0) == (toBytes x1))
def law02_same_spec : FSpec := ⟨[.imm (.slice (.int .u8)), .imm (.slice (.int .u8))], [.imm .bool], fun k x => law02_same k x.1 x.2⟩
def law02_same_parts : Parts := fun _ => none
def law02_same_env : List (Nat × FSpec) := []
def law02_awake (k : Nat) : Option Bool := ((wire_Uvarint k [7] 300).bind fun r1 => (bif (((r1).length : Int) == 3) then (bif (decide (0 ≤ (0 : Int)) && decide ((0 : Int) < (r1).length)) then ((r1[Int.toNat 0]?).bind fun x2 => (bif (x2 == 7) then (bif (decide (0 ≤ (1 : Int)) && decide ((1 : Int) < (r1).length)) then ((r1[Int.toNat 1]?).bind fun x3 => (bif (x3 == 172) then (bif (decide (0 ≤ (2 : Int)) && decide ((2 : Int) < (r1).length)) then ((r1[Int.toNat 2]?).bind fun x4 => some (x4 == 2)) else none) else some false)) else none) else some false)) else none) else some false))
def law02_awake_spec : FSpec := ⟨[], [.imm .bool], fun k x => law02_awake k⟩
def law02_awake_parts : Parts := fun _ => none
def law02_awake_env : List (Nat × FSpec) := [(14, wire_Uvarint_spec)]
def law02_WireWrites_p12 : Nat → (List Int) → (List (Int × Int × (List Int) × Int)) → Int → (List Int) → Option (Unit ⊕ Bool)
  | 0, _, _, _, _ => none
  | k + 1, v0, v1, v2, v3 => (bif (decide (v2 < ((v1).length : Int))) then ((at? v1 v2).bind fun e1 => ((law02_written k v0 e1).bind fun r2 => (bif room ((v3 ++ r2.2)).length 1 then ((law02_same k r2.1 (v3 ++ r2.2)).bind fun r3 => (bif (!r3) then some (.inr false) else law02_WireWrites_p12 k r2.1 v1 (IntKind.wrap .i64 (v2 + 1)) (v3 ++ r2.2))) else none))) else some (.inl ()))
def law02_WireWrites_u12 : Part := ⟨⟨[(6, .sref 500001)], [.val 5 (.slice (.int .u8)), .val 1 (.slice (.pair (.int .i64) (.pair (.int .u64) (.pair (.slice (.int .u8)) (.int .i64))))), .val 7 (.int .i64), .arr 500001 (.int .u8)]⟩, [(.exit 0, ⟨[], []⟩), (.ret, ⟨[], [.val 4 .bool]⟩)], fun k x => law02_WireWrites_p12 k x.1 x.2.1 x.2.2.1 x.2.2.2⟩
def law02_WireWrites (k : Nat) (x0 : List Int) (x1 : List (Int × Int × (List Int) × Int)) : Option Bool := (bif room (x0).length 1 then (bif room (x0).length 1 then ((law02_WireWrites_p12 k x0 x1 0 x0).bind fun o4 => Sum.elim (fun a5 => ((law02_awake k ).bind fun r7 => some r7)) (fun b6 => some b6) o4) else none) else none)
def law02_WireWrites_spec : FSpec := ⟨[.imm (.slice (.int .u8)), .imm (.slice (.pair (.int .i64) (.pair (.int .u64) (.pair (.slice (.int .u8)) (.int .i64)))))], [.imm .bool], fun k x => law02_WireWrites k x.1 x.2⟩
def law02_WireWrites_parts : Parts := fun n => cond (Nat.beq n 12) (some law02_WireWrites_u12) (none)
def law02_WireWrites_env : List (Nat × FSpec) := [(7, law02_written_spec), (8, law02_same_spec), (9, law02_awake_spec)]
noncomputable def wire_own_code : Code := match Try.f34.body with | some c => c | none => .skip
theorem wire_own_fok : FuncOk tab (envL wire_own_env) wire_own_parts Try.f34 wire_own_code wire_own_spec := fun k x => by kernel_rfl
theorem wire_own_pok : PartsOk tab (envL wire_own_env) wire_own_parts 0 wire_own_code := ⟨trivial, trivial, ⟨trivial, trivial, trivial⟩⟩
theorem wire_own_sok : SpecOk Try.prog 34 wire_own_spec := func_sound tabOk envOk_nil mixed Try.func34 rfl (by decide +kernel) (by decide) (by decide) (by kernel_rfl) wire_own_pok wire_own_fok
noncomputable def wire_Uvarint_code : Code := match Try.f14.body with | some c => c | none => .skip
theorem wire_Uvarint_fok : FuncOk tab (envL wire_Uvarint_env) wire_Uvarint_parts Try.f14 wire_Uvarint_code wire_Uvarint_spec := fun k x => by kernel_rfl
theorem wire_Uvarint_pok : PartsOk tab (envL wire_Uvarint_env) wire_Uvarint_parts 0 wire_Uvarint_code := ⟨trivial, trivial, ⟨trivial, trivial, ⟨trivial, ⟨⟨fun _ => by kernel_rfl, fun k x => by kernel_rfl⟩, ⟨trivial, ⟨trivial, trivial, ⟨trivial, trivial⟩⟩, ⟨trivial, trivial, trivial⟩⟩⟩, ⟨trivial, trivial, trivial⟩⟩⟩⟩
theorem wire_Uvarint_sok : SpecOk Try.prog 14 wire_Uvarint_spec := func_sound tabOk (envOk_cons wire_own_sok envOk_nil) mixed Try.func14 rfl (by decide +kernel) (by decide) (by decide) (by kernel_rfl) wire_Uvarint_pok wire_Uvarint_fok
noncomputable def ref02_Uvarint_code : Code := match Try.f23.body with | some c => c | none => .skip
theorem ref02_Uvarint_fok : FuncOk tab (envL ref02_Uvarint_env) ref02_Uvarint_parts Try.f23 ref02_Uvarint_code ref02_Uvarint_spec := fun k x => by kernel_rfl
theorem ref02_Uvarint_pok : PartsOk tab (envL ref02_Uvarint_env) ref02_Uvarint_parts 0 ref02_Uvarint_code := ⟨trivial, trivial, ⟨trivial, trivial, ⟨trivial, ⟨⟨fun _ => by kernel_rfl, fun k x => by kernel_rfl⟩, ⟨trivial, ⟨trivial, trivial, ⟨trivial, trivial⟩⟩, ⟨trivial, trivial, trivial⟩⟩⟩, ⟨trivial, trivial, trivial⟩⟩⟩⟩
theorem ref02_Uvarint_sok : SpecOk Try.prog 23 ref02_Uvarint_spec := func_sound tabOk envOk_nil mixed Try.func23 rfl (by decide +kernel) (by decide) (by decide) (by kernel_rfl) ref02_Uvarint_pok ref02_Uvarint_fok
noncomputable def wire_Varint_code : Code := match Try.f16.body with | some c => c | none => .skip
theorem wire_Varint_fok : FuncOk tab (envL wire_Varint_env) wire_Varint_parts Try.f16 wire_Varint_code wire_Varint_spec := fun k x => by kernel_rfl
theorem wire_Varint_pok : PartsOk tab (envL wire_Varint_env) wire_Varint_parts 0 wire_Varint_code := ⟨trivial, trivial, ⟨trivial, trivial, trivial⟩⟩
theorem wire_Varint_sok : SpecOk Try.prog 16 wire_Varint_spec := func_sound tabOk (envOk_cons wire_Uvarint_sok envOk_nil) mixed Try.func16 rfl (by decide +kernel) (by decide) (by decide) (by kernel_rfl) wire_Varint_pok wire_Varint_fok
noncomputable def ref02_Varint_code : Code := match Try.f24.body with | some c => c | none => .skip
theorem ref02_Varint_fok : FuncOk tab (envL ref02_Varint_env) ref02_Varint_parts Try.f24 ref02_Varint_code ref02_Varint_spec := fun k x => by kernel_rfl
theorem ref02_Varint_pok : PartsOk tab (envL ref02_Varint_env) ref02_Varint_parts 0 ref02_Varint_code := ⟨trivial, trivial, ⟨trivial, ⟨trivial, trivial, ⟨⟨trivial, trivial, trivial⟩, trivial⟩⟩, ⟨trivial, trivial, trivial⟩⟩⟩
theorem ref02_Varint_sok : SpecOk Try.prog 24 ref02_Varint_spec := func_sound tabOk (envOk_cons ref02_Uvarint_sok envOk_nil) mixed Try.func24 rfl (by decide +kernel) (by decide) (by decide) (by kernel_rfl) ref02_Varint_pok ref02_Varint_fok
noncomputable def wire_Fixed4_code : Code := match Try.f25.body with | some c => c | none => .skip
theorem wire_Fixed4_fok : FuncOk tab (envL wire_Fixed4_env) wire_Fixed4_parts Try.f25 wire_Fixed4_code wire_Fixed4_spec := fun k x => by kernel_rfl
theorem wire_Fixed4_pok : PartsOk tab (envL wire_Fixed4_env) wire_Fixed4_parts 0 wire_Fixed4_code := ⟨trivial, trivial, ⟨trivial, trivial, trivial⟩⟩
theorem wire_Fixed4_sok : SpecOk Try.prog 25 wire_Fixed4_spec := func_sound tabOk (envOk_cons wire_own_sok envOk_nil) mixed Try.func25 rfl (by decide +kernel) (by decide) (by decide) (by kernel_rfl) wire_Fixed4_pok wire_Fixed4_fok
noncomputable def ref02_Fixed_code : Code := match Try.f26.body with | some c => c | none => .skip
theorem ref02_Fixed_fok : FuncOk tab (envL ref02_Fixed_env) ref02_Fixed_parts Try.f26 ref02_Fixed_code ref02_Fixed_spec := fun k x => by kernel_rfl
theorem ref02_Fixed_pok : PartsOk tab (envL ref02_Fixed_env) ref02_Fixed_parts 0 ref02_Fixed_code := ⟨trivial, trivial, ⟨trivial, trivial, ⟨trivial, ⟨trivial, trivial, ⟨⟨fun _ => by kernel_rfl, fun k x => by kernel_rfl⟩, ⟨trivial, ⟨trivial, trivial, ⟨trivial, trivial⟩⟩, ⟨trivial, trivial, trivial⟩⟩⟩⟩, ⟨trivial, trivial, trivial⟩⟩⟩⟩
theorem ref02_Fixed_sok : SpecOk Try.prog 26 ref02_Fixed_spec := func_sound tabOk envOk_nil mixed Try.func26 rfl (by decide +kernel) (by decide) (by decide) (by kernel_rfl) ref02_Fixed_pok ref02_Fixed_fok
noncomputable def wire_Fixed8_code : Code := match Try.f27.body with | some c => c | none => .skip
theorem wire_Fixed8_fok : FuncOk tab (envL wire_Fixed8_env) wire_Fixed8_parts Try.f27 wire_Fixed8_code wire_Fixed8_spec := fun k x => by kernel_rfl
theorem wire_Fixed8_pok : PartsOk tab (envL wire_Fixed8_env) wire_Fixed8_parts 0 wire_Fixed8_code := ⟨trivial, trivial, ⟨trivial, trivial, trivial⟩⟩
theorem wire_Fixed8_sok : SpecOk Try.prog 27 wire_Fixed8_spec := func_sound tabOk (envOk_cons wire_Fixed4_sok envOk_nil) mixed Try.func27 rfl (by decide +kernel) (by decide) (by decide) (by kernel_rfl) wire_Fixed8_pok wire_Fixed8_fok
noncomputable def wire_Bytes_code : Code := match Try.f28.body with | some c => c | none => .skip
theorem wire_Bytes_fok : FuncOk tab (envL wire_Bytes_env) wire_Bytes_parts Try.f28 wire_Bytes_code wire_Bytes_spec := fun k x => by kernel_rfl
theorem wire_Bytes_pok : PartsOk tab (envL wire_Bytes_env) wire_Bytes_parts 0 wire_Bytes_code := ⟨trivial, trivial, ⟨trivial, trivial, trivial⟩⟩
theorem wire_Bytes_sok : SpecOk Try.prog 28 wire_Bytes_spec := func_sound tabOk (envOk_cons wire_Uvarint_sok envOk_nil) mixed Try.func28 rfl (by decide +kernel) (by decide) (by decide) (by kernel_rfl) wire_Bytes_pok wire_Bytes_fok
noncomputable def ref02_Bytes_code : Code := match Try.f29.body with | some c => c | none => .skip
theorem ref02_Bytes_fok : FuncOk tab (envL ref02_Bytes_env) ref02_Bytes_parts Try.f29 ref02_Bytes_code ref02_Bytes_spec := fun k x => by kernel_rfl
theorem ref02_Bytes_pok : PartsOk tab (envL ref02_Bytes_env) ref02_Bytes_parts 0 ref02_Bytes_code := ⟨trivial, trivial, ⟨trivial, trivial, trivial⟩⟩
theorem ref02_Bytes_sok : SpecOk Try.prog 29 ref02_Bytes_spec := func_sound tabOk (envOk_cons ref02_Uvarint_sok envOk_nil) mixed Try.func29 rfl (by decide +kernel) (by decide) (by decide) (by kernel_rfl) ref02_Bytes_pok ref02_Bytes_fok
noncomputable def law02_written_code : Code := match Try.f7.body with | some c => c | none => .skip
theorem law02_written_fok : FuncOk tab (envL law02_written_env) law02_written_parts Try.f7 law02_written_code law02_written_spec := fun k x => by kernel_rfl
theorem law02_written_pok : PartsOk tab (envL law02_written_env) law02_written_parts 0 law02_written_code := ⟨trivial, trivial, ⟨trivial, ⟨trivial, trivial, ⟨trivial, trivial, ⟨⟨trivial, trivial, trivial⟩, ⟨trivial, trivial, ⟨⟨trivial, trivial, trivial⟩, ⟨trivial, trivial, ⟨⟨trivial, trivial, trivial⟩, ⟨trivial, trivial, ⟨⟨trivial, trivial, trivial⟩, ⟨trivial, trivial, ⟨⟨trivial, trivial, ⟨trivial, trivial, trivial⟩⟩, trivial⟩⟩⟩⟩⟩⟩⟩⟩⟩⟩⟩, ⟨trivial, trivial, trivial⟩⟩⟩
theorem law02_written_sok : SpecOk Try.prog 7 law02_written_spec := func_sound tabOk (envOk_cons wire_Uvarint_sok (envOk_cons ref02_Uvarint_sok (envOk_cons wire_Varint_sok (envOk_cons ref02_Varint_sok (envOk_cons wire_Fixed4_sok (envOk_cons ref02_Fixed_sok (envOk_cons wire_Fixed8_sok (envOk_cons wire_Bytes_sok (envOk_cons ref02_Bytes_sok envOk_nil))))))))) mixed Try.func7 rfl (by decide +kernel) (by decide) (by decide) (by kernel_rfl) law02_written_pok law02_written_fok
noncomputable def law02_same_code : Code := match Try.f8.body with | some c => c | none => .skip
theorem law02_same_fok : FuncOk tab (envL law02_same_env) law02_same_parts Try.f8 law02_same_code law02_same_spec := fun k x => by kernel_rfl
theorem law02_same_pok : PartsOk tab (envL law02_same_env) law02_same_parts 0 law02_same_code := ⟨trivial, trivial, ⟨trivial, trivial, trivial⟩⟩
theorem law02_same_sok : SpecOk Try.prog 8 law02_same_spec := func_sound tabOk envOk_nil mixed Try.func8 rfl (by decide +kernel) (by decide) (by decide) (by kernel_rfl) law02_same_pok law02_same_fok
noncomputable def law02_awake_code : Code := match Try.f9.body with | some c => c | none => .skip
theorem law02_awake_fok : FuncOk tab (envL law02_awake_env) law02_awake_parts Try.f9 law02_awake_code law02_awake_spec := fun k x => by kernel_rfl
theorem law02_awake_pok : PartsOk tab (envL law02_awake_env) law02_awake_parts 0 law02_awake_code := ⟨trivial, trivial, ⟨trivial, trivial, ⟨trivial, trivial, trivial⟩⟩⟩
theorem law02_awake_sok : SpecOk Try.prog 9 law02_awake_spec := func_sound tabOk (envOk_cons wire_Uvarint_sok envOk_nil) mixed Try.func9 rfl (by decide +kernel) (by decide) (by decide) (by kernel_rfl) law02_awake_pok law02_awake_fok
noncomputable def law02_WireWrites_code : Code := match Try.f3.body with | some c => c | none => .skip
theorem law02_WireWrites_fok : FuncOk tab (envL law02_WireWrites_env) law02_WireWrites_parts Try.f3 law02_WireWrites_code law02_WireWrites_spec := fun k x => by kernel_rfl
theorem law02_WireWrites_pok : PartsOk tab (envL law02_WireWrites_env) law02_WireWrites_parts 0 law02_WireWrites_code := ⟨trivial, trivial, ⟨trivial, trivial, ⟨trivial, trivial, ⟨trivial, trivial, ⟨trivial, ⟨trivial, trivial, ⟨⟨fun _ => by kernel_rfl, fun k x => by kernel_rfl⟩, ⟨trivial, ⟨trivial, trivial, ⟨trivial, trivial⟩⟩, ⟨trivial, ⟨trivial, trivial, ⟨trivial, trivial, ⟨trivial, ⟨trivial, trivial, ⟨⟨trivial, trivial, trivial⟩, trivial⟩⟩, trivial⟩⟩⟩, trivial⟩⟩⟩⟩, ⟨trivial, trivial, trivial⟩⟩⟩⟩⟩⟩
theorem law02_WireWrites_sok : SpecOk Try.prog 3 law02_WireWrites_spec := func_sound tabOk (envOk_cons law02_written_sok (envOk_cons law02_same_sok (envOk_cons law02_awake_sok envOk_nil))) mixed Try.func3 rfl (by decide +kernel) (by decide) (by decide) (by kernel_rfl) law02_WireWrites_pok law02_WireWrites_fok
end Go.Proofs.Ytgkdcldmepodfaa.gg
