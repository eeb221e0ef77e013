/- That the code computes so: printed by a program of our own. -/
import Derived.Test.YtgkdcldmepodfaaG
import Derived.Test.YtgkdcldmepodfaaProg
import Derived.KernelRfl
open Go Go.GG Go.Proofs
set_option linter.unusedVariables false
namespace Go.Proofs.Ytgkdcldmepodfaa.gg
set_option maxRecDepth 100000 in
theorem tabOk : TabOk Try.prog tab := (tabOk_cons ⟨by kernel_rfl, by kernel_rfl, rfl, fun h => by cases h⟩ (tabOk_cons ⟨by kernel_rfl, by kernel_rfl, rfl, fun h => by cases h⟩ (tabOk_cons ⟨by kernel_rfl, by kernel_rfl, rfl, fun h => by cases h⟩ (tabOk_cons ⟨by kernel_rfl, by kernel_rfl, rfl, fun h => by cases h⟩ (tabOk_cons ⟨by kernel_rfl, by kernel_rfl, rfl, fun h => by cases h⟩ (tabOk_cons ⟨by kernel_rfl, by kernel_rfl, rfl, fun h => by cases h⟩ (tabOk_cons ⟨by kernel_rfl, by kernel_rfl, rfl, fun h => by cases h⟩ (tabOk_cons ⟨by kernel_rfl, by kernel_rfl, rfl, fun h => by cases h⟩ (tabOk_cons ⟨by kernel_rfl, by kernel_rfl, rfl, fun h => by cases h⟩ (tabOk_cons ⟨by kernel_rfl, by kernel_rfl, rfl, fun h => by cases h⟩ (tabOk_cons ⟨by kernel_rfl, by kernel_rfl, rfl, fun h => by cases h⟩ (tabOk_cons ⟨by kernel_rfl, by kernel_rfl, rfl, fun h => by cases h⟩ (tabOk_cons ⟨by kernel_rfl, by kernel_rfl, rfl, fun h => by cases h⟩ tabOk_nil)))))))))))))
theorem mixed : Try.prog.follows .mixedOrders = true := by kernel_rfl
noncomputable def slices_Clone_byte_byte_nil_code : Code := match Try.f30.body with | some c => c | none => .skip
theorem slices_Clone_byte_byte_nil_fok : FuncOk tab (envL slices_Clone_byte_byte_nil_env) slices_Clone_byte_byte_nil_parts Try.f30 slices_Clone_byte_byte_nil_code slices_Clone_byte_byte_nil_spec := fun k x => by kernel_rfl
theorem slices_Clone_byte_byte_nil_pok : PartsOk tab (envL slices_Clone_byte_byte_nil_env) slices_Clone_byte_byte_nil_parts 0 slices_Clone_byte_byte_nil_code := ⟨trivial, trivial, ⟨trivial, ⟨trivial, trivial, ⟨⟨trivial, trivial, trivial⟩, trivial⟩⟩, ⟨trivial, trivial, trivial⟩⟩⟩
theorem slices_Clone_byte_byte_nil_sok : SpecOk Try.prog 30 slices_Clone_byte_byte_nil_spec := func_sound tabOk envOk_nil mixed Try.func30 rfl (by decide +kernel) (by decide) (by decide) (by kernel_rfl) slices_Clone_byte_byte_nil_pok slices_Clone_byte_byte_nil_fok
noncomputable def slices_Clone_byte_byte_code : Code := match Try.f30.body with | some c => c | none => .skip
theorem slices_Clone_byte_byte_fok : FuncOk tab (envL slices_Clone_byte_byte_env) slices_Clone_byte_byte_parts Try.f30 slices_Clone_byte_byte_code slices_Clone_byte_byte_sspec := fun k x => by kernel_rfl
theorem slices_Clone_byte_byte_pok : PartsOk tab (envL slices_Clone_byte_byte_env) slices_Clone_byte_byte_parts 0 slices_Clone_byte_byte_code := ⟨trivial, trivial, ⟨trivial, ⟨trivial, trivial, ⟨⟨trivial, trivial, trivial⟩, trivial⟩⟩, ⟨trivial, trivial, trivial⟩⟩⟩
theorem slices_Clone_byte_byte_ssok : SpecOk Try.prog 30 slices_Clone_byte_byte_sspec := func_sound tabOk envOk_nil mixed Try.func30 rfl (by decide +kernel) (by decide) (by decide) (by kernel_rfl) slices_Clone_byte_byte_pok slices_Clone_byte_byte_fok
theorem slices_Clone_byte_byte_sok : SpecOk Try.prog 30 slices_Clone_byte_byte_spec := spec_nil0 slices_Clone_byte_byte_nil_sok slices_Clone_byte_byte_ssok (fun _ _ _ => rfl) (fun _ _ => by kernel_rfl)
noncomputable def wire_Read_code : Code := match Try.f10.body with | some c => c | none => .skip
theorem wire_Read_fok : FuncOk tab (envL wire_Read_env) wire_Read_parts Try.f10 wire_Read_code wire_Read_spec := fun k x => by kernel_rfl
theorem wire_Read_pok : PartsOk tab (envL wire_Read_env) wire_Read_parts 0 wire_Read_code := ⟨trivial, trivial, ⟨trivial, trivial, trivial⟩⟩
theorem wire_Read_sok : SpecOk Try.prog 10 wire_Read_spec := func_sound tabOk (envOk_cons slices_Clone_byte_byte_sok envOk_nil) mixed Try.func10 rfl (by decide +kernel) (by decide) (by decide) (by kernel_rfl) wire_Read_pok wire_Read_fok
noncomputable def wire_Reader_fine_code : Code := match Try.f31.body with | some c => c | none => .skip
theorem wire_Reader_fine_fok : FuncOk tab (envL wire_Reader_fine_env) wire_Reader_fine_parts Try.f31 wire_Reader_fine_code wire_Reader_fine_spec := fun k x => by kernel_rfl
theorem wire_Reader_fine_pok : PartsOk tab (envL wire_Reader_fine_env) wire_Reader_fine_parts 0 wire_Reader_fine_code := ⟨trivial, trivial, ⟨trivial, trivial, trivial⟩⟩
theorem wire_Reader_fine_sok : SpecOk Try.prog 31 wire_Reader_fine_spec := func_sound tabOk envOk_nil mixed Try.func31 rfl (by decide +kernel) (by decide) (by decide) (by kernel_rfl) wire_Reader_fine_pok wire_Reader_fine_fok
noncomputable def wire_Reader_peek_code : Code := match Try.f32.body with | some c => c | none => .skip
theorem wire_Reader_peek_fok : FuncOk tab (envL wire_Reader_peek_env) wire_Reader_peek_parts Try.f32 wire_Reader_peek_code wire_Reader_peek_spec := fun k x => by kernel_rfl
theorem wire_Reader_peek_pok : PartsOk tab (envL wire_Reader_peek_env) wire_Reader_peek_parts 0 wire_Reader_peek_code := ⟨trivial, trivial, ⟨trivial, trivial, ⟨trivial, ⟨trivial, trivial, ⟨⟨fun _ => by kernel_rfl, fun k x => by kernel_rfl⟩, ⟨trivial, trivial, ⟨trivial, ⟨trivial, trivial⟩, ⟨trivial, ⟨trivial, trivial, ⟨trivial, ⟨trivial, trivial, ⟨trivial, trivial⟩⟩, ⟨trivial, trivial, ⟨trivial, trivial, ⟨⟨trivial, trivial, trivial⟩, trivial⟩⟩⟩⟩⟩, trivial⟩⟩⟩⟩⟩, ⟨trivial, trivial, trivial⟩⟩⟩⟩
theorem wire_Reader_peek_sok : SpecOk Try.prog 32 wire_Reader_peek_spec := func_sound tabOk envOk_nil mixed Try.func32 rfl (by decide +kernel) (by decide) (by decide) (by kernel_rfl) wire_Reader_peek_pok wire_Reader_peek_fok
noncomputable def wire_Reader_fail_code : Code := match Try.f33.body with | some c => c | none => .skip
theorem wire_Reader_fail_fok : FuncOk tab (envL wire_Reader_fail_env) wire_Reader_fail_parts Try.f33 wire_Reader_fail_code wire_Reader_fail_spec := fun k x => by kernel_rfl
theorem wire_Reader_fail_pok : PartsOk tab (envL wire_Reader_fail_env) wire_Reader_fail_parts 0 wire_Reader_fail_code := ⟨trivial, trivial, ⟨trivial, trivial⟩⟩
theorem wire_Reader_fail_sok : SpecOk Try.prog 33 wire_Reader_fail_spec := func_sound tabOk envOk_nil mixed Try.func33 rfl (by decide +kernel) (by decide) (by decide) (by kernel_rfl) wire_Reader_fail_pok wire_Reader_fail_fok
noncomputable def wire_Reader_Uvarint_code : Code := match Try.f11.body with | some c => c | none => .skip
theorem wire_Reader_Uvarint_fok : FuncOk tab (envL wire_Reader_Uvarint_env) wire_Reader_Uvarint_parts Try.f11 wire_Reader_Uvarint_code wire_Reader_Uvarint_spec := fun k x => by kernel_rfl
theorem wire_Reader_Uvarint_pok : PartsOk tab (envL wire_Reader_Uvarint_env) wire_Reader_Uvarint_parts 0 wire_Reader_Uvarint_code := ⟨trivial, trivial, ⟨trivial, ⟨trivial, trivial, ⟨⟨trivial, trivial, trivial⟩, trivial⟩⟩, ⟨trivial, trivial, ⟨trivial, ⟨trivial, trivial, ⟨trivial, trivial⟩⟩, ⟨trivial, trivial, ⟨trivial, trivial, trivial⟩⟩⟩⟩⟩⟩
theorem wire_Reader_Uvarint_sok : SpecOk Try.prog 11 wire_Reader_Uvarint_spec := func_sound tabOk (envOk_cons wire_Reader_fine_sok (envOk_cons wire_Reader_peek_sok (envOk_cons wire_Reader_fail_sok envOk_nil))) mixed Try.func11 rfl (by decide +kernel) (by decide) (by decide) (by kernel_rfl) wire_Reader_Uvarint_pok wire_Reader_Uvarint_fok
noncomputable def wire_Reader_Left_code : Code := match Try.f12.body with | some c => c | none => .skip
theorem wire_Reader_Left_fok : FuncOk tab (envL wire_Reader_Left_env) wire_Reader_Left_parts Try.f12 wire_Reader_Left_code wire_Reader_Left_spec := fun k x => by kernel_rfl
theorem wire_Reader_Left_pok : PartsOk tab (envL wire_Reader_Left_env) wire_Reader_Left_parts 0 wire_Reader_Left_code := ⟨trivial, trivial, ⟨trivial, ⟨trivial, trivial, ⟨⟨trivial, trivial, trivial⟩, trivial⟩⟩, ⟨trivial, trivial, trivial⟩⟩⟩
theorem wire_Reader_Left_sok : SpecOk Try.prog 12 wire_Reader_Left_spec := func_sound tabOk envOk_nil mixed Try.func12 rfl (by decide +kernel) (by decide) (by decide) (by kernel_rfl) wire_Reader_Left_pok wire_Reader_Left_fok
noncomputable def wire_Reader_Err_code : Code := match Try.f13.body with | some c => c | none => .skip
theorem wire_Reader_Err_fok : FuncOk tab (envL wire_Reader_Err_env) wire_Reader_Err_parts Try.f13 wire_Reader_Err_code wire_Reader_Err_spec := fun k x => by kernel_rfl
theorem wire_Reader_Err_pok : PartsOk tab (envL wire_Reader_Err_env) wire_Reader_Err_parts 0 wire_Reader_Err_code := ⟨trivial, trivial, ⟨trivial, ⟨trivial, trivial, ⟨⟨trivial, trivial, trivial⟩, trivial⟩⟩, ⟨trivial, trivial, trivial⟩⟩⟩
theorem wire_Reader_Err_sok : SpecOk Try.prog 13 wire_Reader_Err_spec := func_sound tabOk envOk_nil mixed Try.func13 rfl (by decide +kernel) (by decide) (by decide) (by kernel_rfl) wire_Reader_Err_pok wire_Reader_Err_fok
noncomputable def wire_own_code : Code := match Try.f34.body with | some c => c | none => .skip
theorem wire_own_fok : FuncOk tab (envL wire_own_env) wire_own_parts Try.f34 wire_own_code wire_own_spec := fun k x => by kernel_rfl
theorem wire_own_pok : PartsOk tab (envL wire_own_env) wire_own_parts 0 wire_own_code := ⟨trivial, trivial, ⟨trivial, trivial, trivial⟩⟩
theorem wire_own_sok : SpecOk Try.prog 34 wire_own_spec := func_sound tabOk envOk_nil mixed Try.func34 rfl (by decide +kernel) (by decide) (by decide) (by kernel_rfl) wire_own_pok wire_own_fok
noncomputable def wire_Uvarint_code : Code := match Try.f14.body with | some c => c | none => .skip
theorem wire_Uvarint_fok : FuncOk tab (envL wire_Uvarint_env) wire_Uvarint_parts Try.f14 wire_Uvarint_code wire_Uvarint_spec := fun k x => by kernel_rfl
theorem wire_Uvarint_pok : PartsOk tab (envL wire_Uvarint_env) wire_Uvarint_parts 0 wire_Uvarint_code := ⟨trivial, trivial, ⟨trivial, trivial, ⟨trivial, ⟨⟨fun _ => by kernel_rfl, fun k x => by kernel_rfl⟩, ⟨trivial, ⟨trivial, trivial, ⟨trivial, trivial⟩⟩, ⟨trivial, trivial, trivial⟩⟩⟩, ⟨trivial, trivial, trivial⟩⟩⟩⟩
theorem wire_Uvarint_sok : SpecOk Try.prog 14 wire_Uvarint_spec := func_sound tabOk (envOk_cons wire_own_sok envOk_nil) mixed Try.func14 rfl (by decide +kernel) (by decide) (by decide) (by kernel_rfl) wire_Uvarint_pok wire_Uvarint_fok
noncomputable def law02_same_code : Code := match Try.f8.body with | some c => c | none => .skip
theorem law02_same_fok : FuncOk tab (envL law02_same_env) law02_same_parts Try.f8 law02_same_code law02_same_spec := fun k x => by kernel_rfl
theorem law02_same_pok : PartsOk tab (envL law02_same_env) law02_same_parts 0 law02_same_code := ⟨trivial, trivial, ⟨trivial, trivial, trivial⟩⟩
theorem law02_same_sok : SpecOk Try.prog 8 law02_same_spec := func_sound tabOk envOk_nil mixed Try.func8 rfl (by decide +kernel) (by decide) (by decide) (by kernel_rfl) law02_same_pok law02_same_fok
noncomputable def wire_Reader_Varint_code : Code := match Try.f15.body with | some c => c | none => .skip
theorem wire_Reader_Varint_fok : FuncOk tab (envL wire_Reader_Varint_env) wire_Reader_Varint_parts Try.f15 wire_Reader_Varint_code wire_Reader_Varint_spec := fun k x => by kernel_rfl
theorem wire_Reader_Varint_pok : PartsOk tab (envL wire_Reader_Varint_env) wire_Reader_Varint_parts 0 wire_Reader_Varint_code := ⟨trivial, trivial, ⟨trivial, trivial, ⟨trivial, trivial, trivial⟩⟩⟩
theorem wire_Reader_Varint_sok : SpecOk Try.prog 15 wire_Reader_Varint_spec := func_sound tabOk (envOk_cons wire_Reader_Uvarint_sok envOk_nil) mixed Try.func15 rfl (by decide +kernel) (by decide) (by decide) (by kernel_rfl) wire_Reader_Varint_pok wire_Reader_Varint_fok
noncomputable def wire_Varint_code : Code := match Try.f16.body with | some c => c | none => .skip
theorem wire_Varint_fok : FuncOk tab (envL wire_Varint_env) wire_Varint_parts Try.f16 wire_Varint_code wire_Varint_spec := fun k x => by kernel_rfl
theorem wire_Varint_pok : PartsOk tab (envL wire_Varint_env) wire_Varint_parts 0 wire_Varint_code := ⟨trivial, trivial, ⟨trivial, trivial, trivial⟩⟩
theorem wire_Varint_sok : SpecOk Try.prog 16 wire_Varint_spec := func_sound tabOk (envOk_cons wire_Uvarint_sok envOk_nil) mixed Try.func16 rfl (by decide +kernel) (by decide) (by decide) (by kernel_rfl) wire_Varint_pok wire_Varint_fok
noncomputable def law02_awake_code : Code := match Try.f9.body with | some c => c | none => .skip
theorem law02_awake_fok : FuncOk tab (envL law02_awake_env) law02_awake_parts Try.f9 law02_awake_code law02_awake_spec := fun k x => by kernel_rfl
theorem law02_awake_pok : PartsOk tab (envL law02_awake_env) law02_awake_parts 0 law02_awake_code := ⟨trivial, trivial, ⟨trivial, trivial, ⟨trivial, trivial, trivial⟩⟩⟩
theorem law02_awake_sok : SpecOk Try.prog 9 law02_awake_spec := func_sound tabOk (envOk_cons wire_Uvarint_sok envOk_nil) mixed Try.func9 rfl (by decide +kernel) (by decide) (by decide) (by kernel_rfl) law02_awake_pok law02_awake_fok
noncomputable def law02_WireCanonical_code : Code := match Try.f4.body with | some c => c | none => .skip
theorem law02_WireCanonical_fok : FuncOk tab (envL law02_WireCanonical_env) law02_WireCanonical_parts Try.f4 law02_WireCanonical_code law02_WireCanonical_spec := fun k x => by kernel_rfl
theorem law02_WireCanonical_pok : PartsOk tab (envL law02_WireCanonical_env) law02_WireCanonical_parts 0 law02_WireCanonical_code := ⟨trivial, trivial, ⟨trivial, trivial, ⟨trivial, ⟨trivial, trivial, ⟨⟨trivial, trivial, trivial⟩, trivial⟩⟩, ⟨trivial, trivial, ⟨trivial, trivial, ⟨trivial, ⟨fun k x => by kernel_rfl, trivial, ⟨⟨trivial, trivial, trivial⟩, trivial⟩⟩, ⟨trivial, trivial, ⟨trivial, trivial, ⟨trivial, trivial, ⟨trivial, ⟨trivial, trivial, ⟨⟨trivial, trivial, trivial⟩, trivial⟩⟩, ⟨trivial, trivial, trivial⟩⟩⟩⟩⟩⟩⟩⟩⟩⟩⟩
theorem law02_WireCanonical_sok : SpecOk Try.prog 4 law02_WireCanonical_spec := func_sound tabOk (envOk_cons wire_Read_sok (envOk_cons wire_Reader_Uvarint_sok (envOk_cons wire_Reader_Left_sok (envOk_cons wire_Reader_Err_sok (envOk_cons wire_Uvarint_sok (envOk_cons law02_same_sok (envOk_cons wire_Reader_Varint_sok (envOk_cons wire_Varint_sok (envOk_cons law02_awake_sok envOk_nil))))))))) mixed Try.func4 rfl (by decide +kernel) (by decide) (by decide) (by kernel_rfl) law02_WireCanonical_pok law02_WireCanonical_fok
noncomputable def ref02_Uvarint_code : Code := match Try.f23.body with | some c => c | none => .skip
theorem ref02_Uvarint_fok : FuncOk tab (envL ref02_Uvarint_env) ref02_Uvarint_parts Try.f23 ref02_Uvarint_code ref02_Uvarint_spec := fun k x => by kernel_rfl
theorem ref02_Uvarint_pok : PartsOk tab (envL ref02_Uvarint_env) ref02_Uvarint_parts 0 ref02_Uvarint_code := ⟨trivial, trivial, ⟨trivial, trivial, ⟨trivial, ⟨⟨fun _ => by kernel_rfl, fun k x => by kernel_rfl⟩, ⟨trivial, ⟨trivial, trivial, ⟨trivial, trivial⟩⟩, ⟨trivial, trivial, trivial⟩⟩⟩, ⟨trivial, trivial, trivial⟩⟩⟩⟩
theorem ref02_Uvarint_sok : SpecOk Try.prog 23 ref02_Uvarint_spec := func_sound tabOk envOk_nil mixed Try.func23 rfl (by decide +kernel) (by decide) (by decide) (by kernel_rfl) ref02_Uvarint_pok ref02_Uvarint_fok
noncomputable def ref02_Varint_code : Code := match Try.f24.body with | some c => c | none => .skip
theorem ref02_Varint_fok : FuncOk tab (envL ref02_Varint_env) ref02_Varint_parts Try.f24 ref02_Varint_code ref02_Varint_spec := fun k x => by kernel_rfl
theorem ref02_Varint_pok : PartsOk tab (envL ref02_Varint_env) ref02_Varint_parts 0 ref02_Varint_code := ⟨trivial, trivial, ⟨trivial, ⟨trivial, trivial, ⟨⟨trivial, trivial, trivial⟩, trivial⟩⟩, ⟨trivial, trivial, trivial⟩⟩⟩
theorem ref02_Varint_sok : SpecOk Try.prog 24 ref02_Varint_spec := func_sound tabOk (envOk_cons ref02_Uvarint_sok envOk_nil) mixed Try.func24 rfl (by decide +kernel) (by decide) (by decide) (by kernel_rfl) ref02_Varint_pok ref02_Varint_fok
noncomputable def wire_Fixed4_code : Code := match Try.f25.body with | some c => c | none => .skip
theorem wire_Fixed4_fok : FuncOk tab (envL wire_Fixed4_env) wire_Fixed4_parts Try.f25 wire_Fixed4_code wire_Fixed4_spec := fun k x => by kernel_rfl
theorem wire_Fixed4_pok : PartsOk tab (envL wire_Fixed4_env) wire_Fixed4_parts 0 wire_Fixed4_code := ⟨trivial, trivial, ⟨trivial, trivial, trivial⟩⟩
theorem wire_Fixed4_sok : SpecOk Try.prog 25 wire_Fixed4_spec := func_sound tabOk (envOk_cons wire_own_sok envOk_nil) mixed Try.func25 rfl (by decide +kernel) (by decide) (by decide) (by kernel_rfl) wire_Fixed4_pok wire_Fixed4_fok
noncomputable def ref02_Fixed_code : Code := match Try.f26.body with | some c => c | none => .skip
theorem ref02_Fixed_fok : FuncOk tab (envL ref02_Fixed_env) ref02_Fixed_parts Try.f26 ref02_Fixed_code ref02_Fixed_spec := fun k x => by kernel_rfl
theorem ref02_Fixed_pok : PartsOk tab (envL ref02_Fixed_env) ref02_Fixed_parts 0 ref02_Fixed_code := ⟨trivial, trivial, ⟨trivial, trivial, ⟨trivial, ⟨trivial, trivial, ⟨⟨fun _ => by kernel_rfl, fun k x => by kernel_rfl⟩, ⟨trivial, ⟨trivial, trivial, ⟨trivial, trivial⟩⟩, ⟨trivial, trivial, trivial⟩⟩⟩⟩, ⟨trivial, trivial, trivial⟩⟩⟩⟩
theorem ref02_Fixed_sok : SpecOk Try.prog 26 ref02_Fixed_spec := func_sound tabOk envOk_nil mixed Try.func26 rfl (by decide +kernel) (by decide) (by decide) (by kernel_rfl) ref02_Fixed_pok ref02_Fixed_fok
noncomputable def wire_Fixed8_code : Code := match Try.f27.body with | some c => c | none => .skip
theorem wire_Fixed8_fok : FuncOk tab (envL wire_Fixed8_env) wire_Fixed8_parts Try.f27 wire_Fixed8_code wire_Fixed8_spec := fun k x => by kernel_rfl
theorem wire_Fixed8_pok : PartsOk tab (envL wire_Fixed8_env) wire_Fixed8_parts 0 wire_Fixed8_code := ⟨trivial, trivial, ⟨trivial, trivial, trivial⟩⟩
theorem wire_Fixed8_sok : SpecOk Try.prog 27 wire_Fixed8_spec := func_sound tabOk (envOk_cons wire_Fixed4_sok envOk_nil) mixed Try.func27 rfl (by decide +kernel) (by decide) (by decide) (by kernel_rfl) wire_Fixed8_pok wire_Fixed8_fok
noncomputable def wire_Bytes_code : Code := match Try.f28.body with | some c => c | none => .skip
theorem wire_Bytes_fok : FuncOk tab (envL wire_Bytes_env) wire_Bytes_parts Try.f28 wire_Bytes_code wire_Bytes_spec := fun k x => by kernel_rfl
theorem wire_Bytes_pok : PartsOk tab (envL wire_Bytes_env) wire_Bytes_parts 0 wire_Bytes_code := ⟨trivial, trivial, ⟨trivial, trivial, trivial⟩⟩
theorem wire_Bytes_sok : SpecOk Try.prog 28 wire_Bytes_spec := func_sound tabOk (envOk_cons wire_Uvarint_sok envOk_nil) mixed Try.func28 rfl (by decide +kernel) (by decide) (by decide) (by kernel_rfl) wire_Bytes_pok wire_Bytes_fok
noncomputable def ref02_Bytes_code : Code := match Try.f29.body with | some c => c | none => .skip
theorem ref02_Bytes_fok : FuncOk tab (envL ref02_Bytes_env) ref02_Bytes_parts Try.f29 ref02_Bytes_code ref02_Bytes_spec := fun k x => by kernel_rfl
theorem ref02_Bytes_pok : PartsOk tab (envL ref02_Bytes_env) ref02_Bytes_parts 0 ref02_Bytes_code := ⟨trivial, trivial, ⟨trivial, trivial, trivial⟩⟩
theorem ref02_Bytes_sok : SpecOk Try.prog 29 ref02_Bytes_spec := func_sound tabOk (envOk_cons ref02_Uvarint_sok envOk_nil) mixed Try.func29 rfl (by decide +kernel) (by decide) (by decide) (by kernel_rfl) ref02_Bytes_pok ref02_Bytes_fok
noncomputable def law02_written_code : Code := match Try.f7.body with | some c => c | none => .skip
theorem law02_written_fok : FuncOk tab (envL law02_written_env) law02_written_parts Try.f7 law02_written_code law02_written_spec := fun k x => by kernel_rfl
theorem law02_written_pok : PartsOk tab (envL law02_written_env) law02_written_parts 0 law02_written_code := ⟨trivial, trivial, ⟨trivial, ⟨trivial, trivial, ⟨trivial, trivial, ⟨⟨trivial, trivial, trivial⟩, ⟨trivial, trivial, ⟨⟨trivial, trivial, trivial⟩, ⟨trivial, trivial, ⟨⟨trivial, trivial, trivial⟩, ⟨trivial, trivial, ⟨⟨trivial, trivial, trivial⟩, ⟨trivial, trivial, ⟨⟨trivial, trivial, ⟨trivial, trivial, trivial⟩⟩, trivial⟩⟩⟩⟩⟩⟩⟩⟩⟩⟩⟩, ⟨trivial, trivial, trivial⟩⟩⟩
theorem law02_written_sok : SpecOk Try.prog 7 law02_written_spec := func_sound tabOk (envOk_cons wire_Uvarint_sok (envOk_cons ref02_Uvarint_sok (envOk_cons wire_Varint_sok (envOk_cons ref02_Varint_sok (envOk_cons wire_Fixed4_sok (envOk_cons ref02_Fixed_sok (envOk_cons wire_Fixed8_sok (envOk_cons wire_Bytes_sok (envOk_cons ref02_Bytes_sok envOk_nil))))))))) mixed Try.func7 rfl (by decide +kernel) (by decide) (by decide) (by kernel_rfl) law02_written_pok law02_written_fok
noncomputable def wire_Reader_take_code : Code := match Try.f35.body with | some c => c | none => .skip
theorem wire_Reader_take_fok : FuncOk tab (envL wire_Reader_take_env) wire_Reader_take_parts Try.f35 wire_Reader_take_code wire_Reader_take_spec := fun k x => by kernel_rfl
theorem wire_Reader_take_pok : PartsOk tab (envL wire_Reader_take_env) wire_Reader_take_parts 0 wire_Reader_take_code := ⟨trivial, trivial, ⟨trivial, ⟨trivial, trivial, ⟨⟨trivial, trivial, trivial⟩, trivial⟩⟩, ⟨trivial, ⟨trivial, trivial, ⟨⟨trivial, trivial, ⟨trivial, trivial, trivial⟩⟩, trivial⟩⟩, ⟨trivial, trivial, ⟨trivial, trivial, trivial⟩⟩⟩⟩⟩
theorem wire_Reader_take_sok : SpecOk Try.prog 35 wire_Reader_take_spec := func_sound tabOk (envOk_cons wire_Reader_fine_sok (envOk_cons wire_Reader_fail_sok envOk_nil)) mixed Try.func35 rfl (by decide +kernel) (by decide) (by decide) (by kernel_rfl) wire_Reader_take_pok wire_Reader_take_fok
noncomputable def wire_low4_code : Code := match Try.f36.body with | some c => c | none => .skip
theorem wire_low4_fok : FuncOk tab (envL wire_low4_env) wire_low4_parts Try.f36 wire_low4_code wire_low4_spec := fun k x => by kernel_rfl
theorem wire_low4_pok : PartsOk tab (envL wire_low4_env) wire_low4_parts 0 wire_low4_code := ⟨trivial, trivial, ⟨trivial, trivial, trivial⟩⟩
theorem wire_low4_sok : SpecOk Try.prog 36 wire_low4_spec := func_sound tabOk envOk_nil mixed Try.func36 rfl (by decide +kernel) (by decide) (by decide) (by kernel_rfl) wire_low4_pok wire_low4_fok
noncomputable def wire_Reader_Fixed4_code : Code := match Try.f17.body with | some c => c | none => .skip
theorem wire_Reader_Fixed4_fok : FuncOk tab (envL wire_Reader_Fixed4_env) wire_Reader_Fixed4_parts Try.f17 wire_Reader_Fixed4_code wire_Reader_Fixed4_spec := fun k x => by kernel_rfl
theorem wire_Reader_Fixed4_pok : PartsOk tab (envL wire_Reader_Fixed4_env) wire_Reader_Fixed4_parts 0 wire_Reader_Fixed4_code := ⟨trivial, trivial, ⟨trivial, ⟨trivial, trivial, ⟨trivial, trivial, ⟨⟨trivial, trivial, trivial⟩, trivial⟩⟩⟩, ⟨trivial, trivial, trivial⟩⟩⟩
theorem wire_Reader_Fixed4_sok : SpecOk Try.prog 17 wire_Reader_Fixed4_spec := func_sound tabOk (envOk_cons wire_Reader_take_sok (envOk_cons wire_low4_sok envOk_nil)) mixed Try.func17 rfl (by decide +kernel) (by decide) (by decide) (by kernel_rfl) wire_Reader_Fixed4_pok wire_Reader_Fixed4_fok
noncomputable def wire_Reader_Fixed8_code : Code := match Try.f18.body with | some c => c | none => .skip
theorem wire_Reader_Fixed8_fok : FuncOk tab (envL wire_Reader_Fixed8_env) wire_Reader_Fixed8_parts Try.f18 wire_Reader_Fixed8_code wire_Reader_Fixed8_spec := fun k x => by kernel_rfl
theorem wire_Reader_Fixed8_pok : PartsOk tab (envL wire_Reader_Fixed8_env) wire_Reader_Fixed8_parts 0 wire_Reader_Fixed8_code := ⟨trivial, trivial, ⟨trivial, ⟨trivial, trivial, ⟨trivial, trivial, ⟨⟨trivial, trivial, trivial⟩, trivial⟩⟩⟩, ⟨trivial, trivial, trivial⟩⟩⟩
theorem wire_Reader_Fixed8_sok : SpecOk Try.prog 18 wire_Reader_Fixed8_spec := func_sound tabOk (envOk_cons wire_Reader_take_sok (envOk_cons wire_low4_sok envOk_nil)) mixed Try.func18 rfl (by decide +kernel) (by decide) (by decide) (by kernel_rfl) wire_Reader_Fixed8_pok wire_Reader_Fixed8_fok
noncomputable def wire_Reader_number_code : Code := match Try.f37.body with | some c => c | none => .skip
theorem wire_Reader_number_fok : FuncOk tab (envL wire_Reader_number_env) wire_Reader_number_parts Try.f37 wire_Reader_number_code wire_Reader_number_spec := fun k x => by kernel_rfl
theorem wire_Reader_number_pok : PartsOk tab (envL wire_Reader_number_env) wire_Reader_number_parts 0 wire_Reader_number_code := ⟨trivial, trivial, ⟨trivial, ⟨trivial, trivial, ⟨⟨trivial, trivial, trivial⟩, trivial⟩⟩, ⟨trivial, trivial, ⟨trivial, ⟨trivial, trivial, ⟨trivial, ⟨trivial, trivial, ⟨trivial, ⟨trivial, trivial, trivial⟩⟩⟩⟩⟩, ⟨trivial, trivial, trivial⟩⟩⟩⟩⟩
theorem wire_Reader_number_sok : SpecOk Try.prog 37 wire_Reader_number_spec := func_sound tabOk (envOk_cons wire_Reader_fine_sok (envOk_cons wire_Reader_peek_sok (envOk_cons wire_Reader_fail_sok envOk_nil))) mixed Try.func37 rfl (by decide +kernel) (by decide) (by decide) (by kernel_rfl) wire_Reader_number_pok wire_Reader_number_fok
noncomputable def wire_Reader_Bytes_code : Code := match Try.f19.body with | some c => c | none => .skip
theorem wire_Reader_Bytes_fok : FuncOk tab (envL wire_Reader_Bytes_env) wire_Reader_Bytes_parts Try.f19 wire_Reader_Bytes_code wire_Reader_Bytes_spec := fun k x => by kernel_rfl
theorem wire_Reader_Bytes_pok : PartsOk tab (envL wire_Reader_Bytes_env) wire_Reader_Bytes_parts 0 wire_Reader_Bytes_code := ⟨trivial, trivial, ⟨trivial, trivial, ⟨trivial, ⟨trivial, trivial, ⟨⟨trivial, trivial, trivial⟩, trivial⟩⟩, ⟨trivial, ⟨trivial, trivial, ⟨⟨trivial, trivial, ⟨trivial, trivial, trivial⟩⟩, trivial⟩⟩, ⟨trivial, trivial, ⟨trivial, trivial, trivial⟩⟩⟩⟩⟩⟩
theorem wire_Reader_Bytes_sok : SpecOk Try.prog 19 wire_Reader_Bytes_spec := func_sound tabOk (envOk_cons wire_Reader_number_sok (envOk_cons wire_Reader_fail_sok (envOk_cons wire_Reader_take_sok (envOk_cons slices_Clone_byte_byte_sok envOk_nil)))) mixed Try.func19 rfl (by decide +kernel) (by decide) (by decide) (by kernel_rfl) wire_Reader_Bytes_pok wire_Reader_Bytes_fok
noncomputable def wire_Reader_Done_code : Code := match Try.f20.body with | some c => c | none => .skip
theorem wire_Reader_Done_fok : FuncOk tab (envL wire_Reader_Done_env) wire_Reader_Done_parts Try.f20 wire_Reader_Done_code wire_Reader_Done_spec := fun k x => by kernel_rfl
theorem wire_Reader_Done_pok : PartsOk tab (envL wire_Reader_Done_env) wire_Reader_Done_parts 0 wire_Reader_Done_code := ⟨trivial, trivial, ⟨trivial, ⟨trivial, trivial, ⟨trivial, trivial, ⟨⟨trivial, trivial, trivial⟩, trivial⟩⟩⟩, ⟨trivial, ⟨trivial, trivial, ⟨⟨trivial, trivial, trivial⟩, trivial⟩⟩, ⟨trivial, trivial, trivial⟩⟩⟩⟩
theorem wire_Reader_Done_sok : SpecOk Try.prog 20 wire_Reader_Done_spec := func_sound tabOk (envOk_cons wire_Reader_Err_sok (envOk_cons wire_Reader_Left_sok envOk_nil)) mixed Try.func20 rfl (by decide +kernel) (by decide) (by decide) (by kernel_rfl) wire_Reader_Done_pok wire_Reader_Done_fok
noncomputable def law02_WireBack_code : Code := match Try.f5.body with | some c => c | none => .skip
theorem law02_WireBack_fok : FuncOk tab (envL law02_WireBack_env) law02_WireBack_parts Try.f5 law02_WireBack_code law02_WireBack_spec := fun k x => by kernel_rfl
theorem law02_WireBack_pok : PartsOk tab (envL law02_WireBack_env) law02_WireBack_parts 0 law02_WireBack_code := ⟨trivial, trivial, ⟨trivial, trivial, ⟨trivial, ⟨trivial, trivial, ⟨⟨fun _ => by kernel_rfl, fun k x => by kernel_rfl⟩, ⟨trivial, ⟨trivial, trivial, ⟨trivial, trivial⟩⟩, ⟨trivial, trivial, trivial⟩⟩⟩⟩, ⟨trivial, trivial, ⟨trivial, ⟨trivial, trivial, ⟨⟨trivial, trivial, trivial⟩, trivial⟩⟩, ⟨trivial, ⟨trivial, trivial, ⟨⟨fun _ => by kernel_rfl, fun k x => by kernel_rfl⟩, ⟨trivial, ⟨trivial, trivial, ⟨trivial, trivial⟩⟩, ⟨trivial, ⟨trivial, trivial, ⟨fun k x => by kernel_rfl, trivial, ⟨⟨trivial, trivial, trivial⟩, ⟨fun k x => by kernel_rfl, trivial, ⟨⟨trivial, trivial, trivial⟩, ⟨fun k x => by kernel_rfl, trivial, ⟨⟨trivial, trivial, trivial⟩, ⟨trivial, trivial, ⟨⟨trivial, trivial, trivial⟩, ⟨trivial, trivial, ⟨⟨trivial, trivial, trivial⟩, trivial⟩⟩⟩⟩⟩⟩⟩⟩⟩⟩⟩, trivial⟩⟩⟩⟩, ⟨trivial, trivial, trivial⟩⟩⟩⟩⟩⟩⟩
theorem law02_WireBack_sok : SpecOk Try.prog 5 law02_WireBack_spec := func_sound tabOk (envOk_cons law02_written_sok (envOk_cons wire_Read_sok (envOk_cons wire_Reader_Uvarint_sok (envOk_cons wire_Reader_Varint_sok (envOk_cons wire_Reader_Fixed4_sok (envOk_cons wire_Reader_Fixed8_sok (envOk_cons wire_Reader_Bytes_sok (envOk_cons law02_same_sok (envOk_cons wire_Reader_Done_sok (envOk_cons law02_awake_sok envOk_nil)))))))))) mixed Try.func5 rfl (by decide +kernel) (by decide) (by decide) (by kernel_rfl) law02_WireBack_pok law02_WireBack_fok
end Go.Proofs.Ytgkdcldmepodfaa.gg
