/- What the functions compute, and that the code does so: printed by a program of our own. -/
import Derived.Test.YtlmfnbcnfhiheaaL1
import Derived.Test.YtlmfnbcnfhiheaaProg
import Derived.KernelRfl
open Go Go.GG Go.Proofs
set_option linter.unusedVariables false
namespace Go.Proofs.Ytlmfnbcnfhiheaa.gg
def tab : Tab := [(3, ⟨.int .i64, 1, 8, [.int .i64 0], some (.int .i64), false⟩),
  (4, ⟨.bool, 1, 1, [.bool false], some .bool, false⟩),
  (22, ⟨.int .u64, 1, 8, [.int .u64 0], some (.int .u64), false⟩),
  (24, ⟨.struct [(22, 0), (22, 1), (4, 2)], 3, 24, [.int .u64 0, .int .u64 0, .bool false], some (.pair (.int .u64) (.pair (.int .u64) .bool)), false⟩),
  (25, ⟨.slice 29, 1, 24, [.slice none 0 0], some (.slice (.pair (.int .i64) (.int .i64))), false⟩),
  (29, ⟨.struct [(3, 0), (3, 1)], 2, 16, [.int .i64 0, .int .i64 0], some (.pair (.int .i64) (.int .i64)), false⟩),
  (30, ⟨.int .i64, 1, 8, [.int .i64 0], some (.int .i64), false⟩)]
set_option maxRecDepth 100000 in
theorem tabOk : TabOk Try.prog tab := (tabOk_cons ⟨by kernel_rfl, by kernel_rfl, rfl, fun h => by cases h⟩ (tabOk_cons ⟨by kernel_rfl, by kernel_rfl, rfl, fun h => by cases h⟩ (tabOk_cons ⟨by kernel_rfl, by kernel_rfl, rfl, fun h => by cases h⟩ (tabOk_cons ⟨by kernel_rfl, by kernel_rfl, rfl, fun h => by cases h⟩ (tabOk_cons ⟨by kernel_rfl, by kernel_rfl, rfl, fun h => by cases h⟩ (tabOk_cons ⟨by kernel_rfl, by kernel_rfl, rfl, fun h => by cases h⟩ (tabOk_cons ⟨by kernel_rfl, by kernel_rfl, rfl, fun h => by cases h⟩ tabOk_nil)))))))
theorem mixed : Try.prog.follows .mixedOrders = true := by kernel_rfl
def ref18_May (k : Nat) (x0 : Int × Int × Bool) : Option Bool := (bif (x0.1 == 0) then some false else (bif (decide ((IntKind.wrap .u64 (x0.1 - 1)) > x0.2.1)) then some false else (bif (!x0.2.2) then some true else (bif (x0.1 == 18446744073709551615) then some (x0.2.1 == 18446744073709551615) else some false))))
def ref18_May_spec : FSpec := ⟨[.agg (.pair (.int .u64) (.pair (.int .u64) .bool))], [.imm .bool], fun k x => ref18_May k x⟩
def ref18_May_parts : Parts := fun _ => none
def ref18_May_env : List (Nat × FSpec) := []
def oracle_New (k : Nat) (x0 : Int) : Option ((Int × Int × Bool) × Int) := (bif (x0 == 0) then some ((0, (0, false)), 1) else some ((x0, ((IntKind.wrap .u64 (x0 - 1)), false)), 0))
def oracle_New_spec : FSpec := ⟨[.imm (.int .u64)], [.agg (.pair (.int .u64) (.pair (.int .u64) .bool)), .imm (.int .i64)], fun k x => oracle_New k x⟩
def oracle_New_parts : Parts := fun _ => none
def oracle_New_env : List (Nat × FSpec) := []
def oracle_Check (k : Nat) (x0 : Int × Int × Bool) : Option Int := (bif (x0.1 == 0) then some 1 else (bif (decide (x0.2.1 < (IntKind.wrap .u64 (x0.1 - 1)))) then some 1 else (bif x0.2.2 then (bif (x0.1 != 18446744073709551615) then some 1 else (bif (x0.2.1 != 18446744073709551615) then some 1 else some 0)) else some 0)))
def oracle_Check_spec : FSpec := ⟨[.agg (.pair (.int .u64) (.pair (.int .u64) .bool))], [.imm (.int .i64)], fun k x => oracle_Check k x⟩
def oracle_Check_parts : Parts := fun _ => none
def oracle_Check_env : List (Nat × FSpec) := []
def oracle_Extend (k : Nat) (x0 : Int × Int × Bool) (x1 : Int) : Option ((Int × Int × Bool) × Int) := ((oracle_Check k x0).bind fun r1 => (bif (r1 != 0) then some ((0, (0, false)), 1) else (bif (decide (x1 < 1)) then some ((0, (0, false)), 1) else (bif (decide (x1 > 65536)) then some ((0, (0, false)), 1) else (bif (x0.2.1 == 18446744073709551615) then some ((0, (0, false)), 11) else some ((x0.1, ((IntKind.wrap .u64 (x0.2.1 + (intMin (IntKind.wrap .u64 x1) (IntKind.wrap .u64 (18446744073709551615 - x0.2.1))))), x0.2.2)), 0))))))
def oracle_Extend_spec : FSpec := ⟨[.agg (.pair (.int .u64) (.pair (.int .u64) .bool)), .imm (.int .i64)], [.agg (.pair (.int .u64) (.pair (.int .u64) .bool)), .imm (.int .i64)], fun k x => oracle_Extend k x.1 x.2⟩
def oracle_Extend_parts : Parts := fun _ => none
def oracle_Extend_env : List (Nat × FSpec) := [(17, oracle_Check_spec)]
def oracle_Left (k : Nat) (x0 : Int × Int × Bool) : Option Int := ((oracle_Check k x0).bind fun r1 => (bif (r1 != 0) then some 0 else (bif x0.2.2 then some 0 else some (IntKind.wrap .u64 (x0.2.1 - (IntKind.wrap .u64 (x0.1 - 1)))))))
def oracle_Left_spec : FSpec := ⟨[.agg (.pair (.int .u64) (.pair (.int .u64) .bool))], [.imm (.int .u64)], fun k x => oracle_Left k x⟩
def oracle_Left_parts : Parts := fun _ => none
def oracle_Left_env : List (Nat × FSpec) := [(17, oracle_Check_spec)]
def oracle_Take (k : Nat) (x0 : Int × Int × Bool) : Option ((Int × Int × Bool) × Int × Int) := ((oracle_Check k x0).bind fun r1 => (bif (r1 != 0) then some ((0, (0, false)), 0, 1) else (bif x0.2.2 then some ((0, (0, false)), 0, 11) else ((oracle_Left k x0).bind fun r2 => (bif (r2 == 0) then some ((0, (0, false)), 0, 9) else (bif (x0.1 == 18446744073709551615) then some ((x0.1, (x0.2.1, true)), x0.1, 0) else some (((IntKind.wrap .u64 (x0.1 + 1)), x0.2), x0.1, 0)))))))
def oracle_Take_spec : FSpec := ⟨[.agg (.pair (.int .u64) (.pair (.int .u64) .bool))], [.agg (.pair (.int .u64) (.pair (.int .u64) .bool)), .imm (.int .u64), .imm (.int .i64)], fun k x => oracle_Take k x⟩
def oracle_Take_parts : Parts := fun _ => none
def oracle_Take_env : List (Nat × FSpec) := [(17, oracle_Check_spec), (16, oracle_Left_spec)]
def law18_awake (k : Nat) : Option Bool := ((oracle_New k 1).bind fun r1 => (bif (r1.2 != 0) then some false else ((oracle_Extend k r1.1 2).bind fun r2 => ((oracle_Take k r2.1).bind fun r3 => (bif (r2.2 == 0) then (bif (r3.2.2 == 0) then (bif (r3.2.1 == 1) then ((oracle_Left k r3.1).bind fun r4 => some (r4 == 1)) else some false) else some false) else some false)))))
def law18_awake_spec : FSpec := ⟨[], [.imm .bool], fun k x => law18_awake k⟩
def law18_awake_parts : Parts := fun _ => none
def law18_awake_env : List (Nat × FSpec) := [(15, oracle_New_spec), (8, oracle_Extend_spec), (10, oracle_Take_spec), (16, oracle_Left_spec)]
def oracle_Recover (k : Nat) (x0 : Int × Int × Bool) : Option ((Int × Int × Bool) × Int) := ((oracle_Check k x0).bind fun r1 => (bif (r1 != 0) then some ((0, (0, false)), 1) else (bif (x0.2.1 == 18446744073709551615) then some ((18446744073709551615, (18446744073709551615, true)), 0) else some (((IntKind.wrap .u64 (x0.2.1 + 1)), x0.2), 0))))
def oracle_Recover_spec : FSpec := ⟨[.agg (.pair (.int .u64) (.pair (.int .u64) .bool))], [.agg (.pair (.int .u64) (.pair (.int .u64) .bool)), .imm (.int .i64)], fun k x => oracle_Recover k x⟩
def oracle_Recover_parts : Parts := fun _ => none
def oracle_Recover_env : List (Nat × FSpec) := [(17, oracle_Check_spec)]
def law18_OracleRises_p16 : Nat → (List (Int × Int)) → Int → Bool → Bool → Int → (Int × Int × Bool) → Option (Unit ⊕ Bool)
  | 0, _, _, _, _, _, _ => none
  | k + 1, v0, v1, v2, v3, v4, v5 => (bif (decide (v4 < ((v0).length : Int))) then (bif (decide (v4 < 200)) then ((at? v0 v4).bind fun e3 => (bif (e3.1 == 0) then ((at? v0 v4).bind fun e4 => ((oracle_Extend k v5 e4.2).bind fun r5 => (bif (r5.2 == 0) then ((ref18_May k r5.1).bind fun r6 => (bif (!r6) then some (.inr false) else law18_OracleRises_p16 k v0 v1 v2 v3 (IntKind.wrap .i64 (v4 + 1)) (r5.1.1, r5.1.2.1, r5.1.2.2))) else ((ref18_May k v5).bind fun r7 => (bif (!r7) then some (.inr false) else law18_OracleRises_p16 k v0 v1 v2 v3 (IntKind.wrap .i64 (v4 + 1)) (v5.1, v5.2.1, v5.2.2)))))) else (bif (e3.1 == 1) then ((oracle_Recover k v5).bind fun r8 => (bif (r8.2 != 0) then some (.inr false) else ((ref18_May k r8.1).bind fun r9 => (bif (!r9) then some (.inr false) else law18_OracleRises_p16 k v0 v1 v2 v3 (IntKind.wrap .i64 (v4 + 1)) (r8.1.1, r8.1.2.1, r8.1.2.2))))) else ((oracle_Take k v5).bind fun r10 => (bif v3 then (bif (r10.2.2 != 0) then (bif (r10.2.1 != 0) then some (.inr false) else (bif (r10.2.2 != 9) then (bif (r10.2.2 != 11) then some (.inr false) else law18_OracleRises_p16 k v0 v1 v2 true (IntKind.wrap .i64 (v4 + 1)) (v5.1, v5.2.1, v5.2.2)) else law18_OracleRises_p16 k v0 v1 v2 true (IntKind.wrap .i64 (v4 + 1)) (v5.1, v5.2.1, v5.2.2))) else some (.inr false)) else (bif (r10.2.2 != 0) then (bif (r10.2.1 != 0) then some (.inr false) else (bif (r10.2.2 != 9) then (bif (r10.2.2 != 11) then some (.inr false) else law18_OracleRises_p16 k v0 v1 v2 (r10.2.2 == 11) (IntKind.wrap .i64 (v4 + 1)) (v5.1, v5.2.1, v5.2.2)) else law18_OracleRises_p16 k v0 v1 v2 (r10.2.2 == 11) (IntKind.wrap .i64 (v4 + 1)) (v5.1, v5.2.1, v5.2.2))) else (bif (r10.2.2 == 11) then some (.inr false) else (bif (r10.2.1 == 0) then some (.inr false) else (bif v2 then (bif (decide (r10.2.1 ≤ v1)) then some (.inr false) else ((ref18_May k r10.1).bind fun r11 => (bif (!r11) then some (.inr false) else law18_OracleRises_p16 k v0 r10.2.1 true (r10.2.2 == 11) (IntKind.wrap .i64 (v4 + 1)) (r10.1.1, r10.1.2.1, r10.1.2.2)))) else ((ref18_May k r10.1).bind fun r12 => (bif (!r12) then some (.inr false) else law18_OracleRises_p16 k v0 r10.2.1 true (r10.2.2 == 11) (IntKind.wrap .i64 (v4 + 1)) (r10.1.1, r10.1.2.1, r10.1.2.2)))))))))))) else some (.inl ())) else some (.inl ()))
def law18_OracleRises_u16 : Part := ⟨⟨[(2, .ptr 500000 0)], [.val 1 (.slice (.pair (.int .i64) (.int .i64))), .val 5 (.int .u64), .val 6 .bool, .val 7 .bool, .val 8 (.int .i64), .cells 500000 [.dyn (.int .u64), .dyn (.int .u64), .dyn .bool]]⟩, [(.exit 0, ⟨[], []⟩), (.ret, ⟨[], [.val 4 .bool]⟩)], fun k x => law18_OracleRises_p16 k x.1 x.2.1 x.2.2.1 x.2.2.2.1 x.2.2.2.2.1 x.2.2.2.2.2⟩
def law18_OracleRises (k : Nat) (x0 : Int × Int × Bool) (x1 : List (Int × Int)) : Option Bool := ((ref18_May k x0).bind fun r1 => (bif (!r1) then ((law18_awake k ).bind fun r2 => some r2) else ((law18_OracleRises_p16 k x1 0 false false 0 (x0.1, x0.2.1, x0.2.2)).bind fun o13 => Sum.elim (fun a14 => ((law18_awake k ).bind fun r16 => some r16)) (fun b15 => some b15) o13)))
def law18_OracleRises_spec : FSpec := ⟨[.agg (.pair (.int .u64) (.pair (.int .u64) .bool)), .imm (.slice (.pair (.int .i64) (.int .i64)))], [.imm .bool], fun k x => law18_OracleRises k x.1 x.2⟩
def law18_OracleRises_parts : Parts := fun n => cond (Nat.beq n 16) (some law18_OracleRises_u16) (none)
def law18_OracleRises_env : List (Nat × FSpec) := [(6, ref18_May_spec), (7, law18_awake_spec), (8, oracle_Extend_spec), (9, oracle_Recover_spec), (10, oracle_Take_spec)]
noncomputable def ref18_May_code : Code := match Try.f6.body with | some c => c | none => .skip
theorem ref18_May_fok : FuncOk tab (envL ref18_May_env) ref18_May_parts Try.f6 ref18_May_code ref18_May_spec := fun k x => by kernel_rfl
theorem ref18_May_pok : PartsOk tab (envL ref18_May_env) ref18_May_parts 0 ref18_May_code := ⟨trivial, trivial, ⟨trivial, ⟨trivial, trivial, ⟨⟨trivial, trivial, trivial⟩, trivial⟩⟩, ⟨trivial, trivial, trivial⟩⟩⟩
theorem ref18_May_sok : SpecOk Try.prog 6 ref18_May_spec := func_sound tabOk envOk_nil mixed Try.func6 rfl (by decide +kernel) (by decide) (by decide) (by kernel_rfl) ref18_May_pok ref18_May_fok
noncomputable def oracle_New_code : Code := match Try.f15.body with | some c => c | none => .skip
theorem oracle_New_fok : FuncOk tab (envL oracle_New_env) oracle_New_parts Try.f15 oracle_New_code oracle_New_spec := fun k x => by kernel_rfl
theorem oracle_New_pok : PartsOk tab (envL oracle_New_env) oracle_New_parts 0 oracle_New_code := ⟨trivial, trivial, ⟨trivial, ⟨trivial, trivial, ⟨⟨trivial, trivial, trivial⟩, trivial⟩⟩, ⟨trivial, trivial, trivial⟩⟩⟩
theorem oracle_New_sok : SpecOk Try.prog 15 oracle_New_spec := func_sound tabOk envOk_nil mixed Try.func15 rfl (by decide +kernel) (by decide) (by decide) (by kernel_rfl) oracle_New_pok oracle_New_fok
noncomputable def oracle_Check_code : Code := match Try.f17.body with | some c => c | none => .skip
theorem oracle_Check_fok : FuncOk tab (envL oracle_Check_env) oracle_Check_parts Try.f17 oracle_Check_code oracle_Check_spec := fun k x => by kernel_rfl
theorem oracle_Check_pok : PartsOk tab (envL oracle_Check_env) oracle_Check_parts 0 oracle_Check_code := ⟨trivial, trivial, ⟨trivial, ⟨trivial, trivial, ⟨⟨trivial, trivial, trivial⟩, trivial⟩⟩, ⟨trivial, trivial, trivial⟩⟩⟩
theorem oracle_Check_sok : SpecOk Try.prog 17 oracle_Check_spec := func_sound tabOk envOk_nil mixed Try.func17 rfl (by decide +kernel) (by decide) (by decide) (by kernel_rfl) oracle_Check_pok oracle_Check_fok
noncomputable def oracle_Extend_code : Code := match Try.f8.body with | some c => c | none => .skip
theorem oracle_Extend_fok : FuncOk tab (envL oracle_Extend_env) oracle_Extend_parts Try.f8 oracle_Extend_code oracle_Extend_spec := fun k x => by kernel_rfl
theorem oracle_Extend_pok : PartsOk tab (envL oracle_Extend_env) oracle_Extend_parts 0 oracle_Extend_code := ⟨trivial, trivial, ⟨trivial, ⟨trivial, trivial, ⟨⟨trivial, trivial, trivial⟩, ⟨trivial, trivial, ⟨⟨trivial, trivial, trivial⟩, trivial⟩⟩⟩⟩, ⟨trivial, trivial, ⟨trivial, trivial, trivial⟩⟩⟩⟩
theorem oracle_Extend_sok : SpecOk Try.prog 8 oracle_Extend_spec := func_sound tabOk (envOk_cons oracle_Check_sok envOk_nil) mixed Try.func8 rfl (by decide +kernel) (by decide) (by decide) (by kernel_rfl) oracle_Extend_pok oracle_Extend_fok
noncomputable def oracle_Left_code : Code := match Try.f16.body with | some c => c | none => .skip
theorem oracle_Left_fok : FuncOk tab (envL oracle_Left_env) oracle_Left_parts Try.f16 oracle_Left_code oracle_Left_spec := fun k x => by kernel_rfl
theorem oracle_Left_pok : PartsOk tab (envL oracle_Left_env) oracle_Left_parts 0 oracle_Left_code := ⟨trivial, trivial, ⟨trivial, ⟨trivial, trivial, ⟨⟨trivial, trivial, trivial⟩, trivial⟩⟩, ⟨trivial, trivial, trivial⟩⟩⟩
theorem oracle_Left_sok : SpecOk Try.prog 16 oracle_Left_spec := func_sound tabOk (envOk_cons oracle_Check_sok envOk_nil) mixed Try.func16 rfl (by decide +kernel) (by decide) (by decide) (by kernel_rfl) oracle_Left_pok oracle_Left_fok
noncomputable def oracle_Take_code : Code := match Try.f10.body with | some c => c | none => .skip
theorem oracle_Take_fok : FuncOk tab (envL oracle_Take_env) oracle_Take_parts Try.f10 oracle_Take_code oracle_Take_spec := fun k x => by kernel_rfl
theorem oracle_Take_pok : PartsOk tab (envL oracle_Take_env) oracle_Take_parts 0 oracle_Take_code := ⟨trivial, trivial, ⟨trivial, ⟨trivial, trivial, ⟨⟨trivial, trivial, trivial⟩, ⟨trivial, trivial, ⟨⟨trivial, trivial, trivial⟩, ⟨trivial, trivial, ⟨⟨trivial, trivial, trivial⟩, trivial⟩⟩⟩⟩⟩⟩, ⟨trivial, trivial, ⟨trivial, ⟨trivial, trivial, ⟨trivial, trivial⟩⟩, ⟨trivial, trivial, trivial⟩⟩⟩⟩⟩
theorem oracle_Take_sok : SpecOk Try.prog 10 oracle_Take_spec := func_sound tabOk (envOk_cons oracle_Check_sok (envOk_cons oracle_Left_sok envOk_nil)) mixed Try.func10 rfl (by decide +kernel) (by decide) (by decide) (by kernel_rfl) oracle_Take_pok oracle_Take_fok
noncomputable def law18_awake_code : Code := match Try.f7.body with | some c => c | none => .skip
theorem law18_awake_fok : FuncOk tab (envL law18_awake_env) law18_awake_parts Try.f7 law18_awake_code law18_awake_spec := fun k x => by kernel_rfl
theorem law18_awake_pok : PartsOk tab (envL law18_awake_env) law18_awake_parts 0 law18_awake_code := ⟨trivial, trivial, ⟨trivial, trivial, ⟨trivial, ⟨trivial, trivial, ⟨⟨trivial, trivial, trivial⟩, trivial⟩⟩, ⟨trivial, trivial, ⟨trivial, trivial, ⟨trivial, trivial, trivial⟩⟩⟩⟩⟩⟩
theorem law18_awake_sok : SpecOk Try.prog 7 law18_awake_spec := func_sound tabOk (envOk_cons oracle_New_sok (envOk_cons oracle_Extend_sok (envOk_cons oracle_Take_sok (envOk_cons oracle_Left_sok envOk_nil)))) mixed Try.func7 rfl (by decide +kernel) (by decide) (by decide) (by kernel_rfl) law18_awake_pok law18_awake_fok
noncomputable def oracle_Recover_code : Code := match Try.f9.body with | some c => c | none => .skip
theorem oracle_Recover_fok : FuncOk tab (envL oracle_Recover_env) oracle_Recover_parts Try.f9 oracle_Recover_code oracle_Recover_spec := fun k x => by kernel_rfl
theorem oracle_Recover_pok : PartsOk tab (envL oracle_Recover_env) oracle_Recover_parts 0 oracle_Recover_code := ⟨trivial, trivial, ⟨trivial, ⟨trivial, trivial, ⟨⟨trivial, trivial, trivial⟩, ⟨trivial, trivial, ⟨⟨trivial, trivial, trivial⟩, trivial⟩⟩⟩⟩, ⟨trivial, trivial, ⟨trivial, trivial, trivial⟩⟩⟩⟩
theorem oracle_Recover_sok : SpecOk Try.prog 9 oracle_Recover_spec := func_sound tabOk (envOk_cons oracle_Check_sok envOk_nil) mixed Try.func9 rfl (by decide +kernel) (by decide) (by decide) (by kernel_rfl) oracle_Recover_pok oracle_Recover_fok
noncomputable def law18_OracleRises_code : Code := match Try.f3.body with | some c => c | none => .skip
theorem law18_OracleRises_fok : FuncOk tab (envL law18_OracleRises_env) law18_OracleRises_parts Try.f3 law18_OracleRises_code law18_OracleRises_spec := fun k x => by kernel_rfl
theorem law18_OracleRises_pok : PartsOk tab (envL law18_OracleRises_env) law18_OracleRises_parts 0 law18_OracleRises_code := ⟨trivial, trivial, ⟨trivial, ⟨trivial, trivial, ⟨⟨trivial, trivial, trivial⟩, trivial⟩⟩, ⟨trivial, trivial, ⟨trivial, ⟨trivial, trivial, ⟨⟨fun _ => by kernel_rfl, fun k x => by kernel_rfl⟩, ⟨trivial, ⟨trivial, trivial, ⟨trivial, trivial⟩⟩, ⟨trivial, ⟨trivial, ⟨trivial, trivial, ⟨trivial, trivial, ⟨⟨trivial, trivial, ⟨trivial, trivial, ⟨trivial, trivial⟩⟩⟩, ⟨trivial, trivial, ⟨⟨trivial, trivial, ⟨trivial, ⟨trivial, trivial, ⟨⟨trivial, trivial, trivial⟩, trivial⟩⟩, trivial⟩⟩, ⟨trivial, trivial, ⟨trivial, trivial, ⟨trivial, ⟨trivial, trivial, ⟨⟨trivial, ⟨trivial, trivial, ⟨⟨trivial, trivial, trivial⟩, trivial⟩⟩, trivial⟩, trivial⟩⟩, ⟨trivial, ⟨trivial, trivial, ⟨⟨trivial, trivial, trivial⟩, trivial⟩⟩, ⟨trivial, trivial, trivial⟩⟩⟩⟩⟩⟩⟩⟩⟩⟩, ⟨trivial, trivial, ⟨⟨trivial, trivial, trivial⟩, trivial⟩⟩⟩, trivial⟩⟩⟩⟩, ⟨trivial, trivial, trivial⟩⟩⟩⟩⟩
theorem law18_OracleRises_sok : SpecOk Try.prog 3 law18_OracleRises_spec := func_sound tabOk (envOk_cons ref18_May_sok (envOk_cons law18_awake_sok (envOk_cons oracle_Extend_sok (envOk_cons oracle_Recover_sok (envOk_cons oracle_Take_sok envOk_nil))))) mixed Try.func3 rfl (by decide +kernel) (by decide) (by decide) (by kernel_rfl) law18_OracleRises_pok law18_OracleRises_fok
end Go.Proofs.Ytlmfnbcnfhiheaa.gg
