/- That the code computes so: printed by a program of our own. -/
import Derived.Test.YtlmfnbcnfhiheaaG
import Derived.Test.YtlmfnbcnfhiheaaProg
import Derived.KernelRfl
open Go Go.GG Go.Proofs
set_option linter.unusedVariables false
namespace Go.Proofs.Ytlmfnbcnfhiheaa.gg
set_option maxRecDepth 100000 in
theorem tabOk : TabOk Try.prog tab := (tabOk_cons ⟨by kernel_rfl, by kernel_rfl, rfl, fun h => by cases h⟩ (tabOk_cons ⟨by kernel_rfl, by kernel_rfl, rfl, fun h => by cases h⟩ (tabOk_cons ⟨by kernel_rfl, by kernel_rfl, rfl, fun h => by cases h⟩ (tabOk_cons ⟨by kernel_rfl, by kernel_rfl, rfl, fun h => by cases h⟩ (tabOk_cons ⟨by kernel_rfl, by kernel_rfl, rfl, fun h => by cases h⟩ (tabOk_cons (tOk_eq (by kernel_rfl) (by kernel_rfl) rfl rfl (by kernel_rfl) (by kernel_rfl) (by kernel_rfl)) (tabOk_cons ⟨by kernel_rfl, by kernel_rfl, rfl, fun h => by cases h⟩ (tabOk_cons ⟨by kernel_rfl, by kernel_rfl, rfl, fun h => by cases h⟩ (tabOk_cons ⟨by kernel_rfl, by kernel_rfl, rfl, fun h => by cases h⟩ (tabOk_cons ⟨by kernel_rfl, by kernel_rfl, rfl, fun h => by cases h⟩ (tabOk_cons ⟨by kernel_rfl, by kernel_rfl, rfl, fun h => by cases h⟩ (tabOk_cons ⟨by kernel_rfl, by kernel_rfl, rfl, fun h => by cases h⟩ tabOk_nil))))))))))))
theorem mixed : Try.prog.follows .mixedOrders = true := by kernel_rfl
noncomputable def oracle_New_code : Code := match Try.f15.body with | some c => c | none => .skip
theorem oracle_New_fok : FuncOk tab (envL oracle_New_env) oracle_New_parts Try.f15 oracle_New_code oracle_New_spec := fun k x => by kernel_rfl
theorem oracle_New_pok : PartsOk tab (envL oracle_New_env) oracle_New_parts 0 oracle_New_code := ⟨trivial, trivial, ⟨trivial, ⟨trivial, trivial, ⟨⟨trivial, trivial, trivial⟩, trivial⟩⟩, ⟨trivial, trivial, trivial⟩⟩⟩
theorem oracle_New_sok : SpecOk Try.prog 15 oracle_New_spec := func_sound tabOk envOk_nil mixed Try.func15 rfl (by decide +kernel) (by decide) (by decide) (by kernel_rfl) oracle_New_pok oracle_New_fok
noncomputable def oracle_Check_code : Code := match Try.f17.body with | some c => c | none => .skip
theorem oracle_Check_fok : FuncOk tab (envL oracle_Check_env) oracle_Check_parts Try.f17 oracle_Check_code oracle_Check_spec := fun k x => by kernel_rfl
theorem oracle_Check_pok : PartsOk tab (envL oracle_Check_env) oracle_Check_parts 0 oracle_Check_code := ⟨trivial, trivial, ⟨trivial, ⟨trivial, trivial, ⟨⟨trivial, trivial, trivial⟩, trivial⟩⟩, ⟨trivial, trivial, trivial⟩⟩⟩
theorem oracle_Check_sok : SpecOk Try.prog 17 oracle_Check_spec := func_sound tabOk envOk_nil mixed Try.func17 rfl (by decide +kernel) (by decide) (by decide) (by kernel_rfl) oracle_Check_pok oracle_Check_fok
noncomputable def oracle_Extend_code : Code := match Try.f8.body with | some c => c | none => .skip
theorem oracle_Extend_fok : FuncOk tab (envL oracle_Extend_env) oracle_Extend_parts Try.f8 oracle_Extend_code oracle_Extend_spec := fun k x => by kernel_rfl
theorem oracle_Extend_pok : PartsOk tab (envL oracle_Extend_env) oracle_Extend_parts 0 oracle_Extend_code := ⟨trivial, trivial, ⟨trivial, ⟨trivial, trivial, ⟨⟨trivial, trivial, trivial⟩, ⟨trivial, trivial, ⟨⟨trivial, trivial, trivial⟩, trivial⟩⟩⟩⟩, ⟨trivial, trivial, ⟨trivial, trivial, trivial⟩⟩⟩⟩
theorem oracle_Extend_sok : SpecOk Try.prog 8 oracle_Extend_spec := func_sound tabOk (envOk_cons oracle_Check_sok envOk_nil) mixed Try.func8 rfl (by decide +kernel) (by decide) (by decide) (by kernel_rfl) oracle_Extend_pok oracle_Extend_fok
noncomputable def oracle_Left_code : Code := match Try.f16.body with | some c => c | none => .skip
theorem oracle_Left_fok : FuncOk tab (envL oracle_Left_env) oracle_Left_parts Try.f16 oracle_Left_code oracle_Left_spec := fun k x => by kernel_rfl
theorem oracle_Left_pok : PartsOk tab (envL oracle_Left_env) oracle_Left_parts 0 oracle_Left_code := ⟨trivial, trivial, ⟨trivial, ⟨trivial, trivial, ⟨⟨trivial, trivial, trivial⟩, trivial⟩⟩, ⟨trivial, trivial, trivial⟩⟩⟩
theorem oracle_Left_sok : SpecOk Try.prog 16 oracle_Left_spec := func_sound tabOk (envOk_cons oracle_Check_sok envOk_nil) mixed Try.func16 rfl (by decide +kernel) (by decide) (by decide) (by kernel_rfl) oracle_Left_pok oracle_Left_fok
noncomputable def oracle_Take_code : Code := match Try.f10.body with | some c => c | none => .skip
theorem oracle_Take_fok : FuncOk tab (envL oracle_Take_env) oracle_Take_parts Try.f10 oracle_Take_code oracle_Take_spec := fun k x => by kernel_rfl
theorem oracle_Take_pok : PartsOk tab (envL oracle_Take_env) oracle_Take_parts 0 oracle_Take_code := ⟨trivial, trivial, ⟨trivial, ⟨trivial, trivial, ⟨⟨trivial, trivial, trivial⟩, ⟨trivial, trivial, ⟨⟨trivial, trivial, trivial⟩, ⟨trivial, trivial, ⟨⟨trivial, trivial, trivial⟩, trivial⟩⟩⟩⟩⟩⟩, ⟨trivial, trivial, ⟨trivial, ⟨trivial, trivial, ⟨trivial, trivial⟩⟩, ⟨trivial, trivial, trivial⟩⟩⟩⟩⟩
theorem oracle_Take_sok : SpecOk Try.prog 10 oracle_Take_spec := func_sound tabOk (envOk_cons oracle_Check_sok (envOk_cons oracle_Left_sok envOk_nil)) mixed Try.func10 rfl (by decide +kernel) (by decide) (by decide) (by kernel_rfl) oracle_Take_pok oracle_Take_fok
noncomputable def law18_awake_code : Code := match Try.f7.body with | some c => c | none => .skip
theorem law18_awake_fok : FuncOk tab (envL law18_awake_env) law18_awake_parts Try.f7 law18_awake_code law18_awake_spec := fun k x => by kernel_rfl
theorem law18_awake_pok : PartsOk tab (envL law18_awake_env) law18_awake_parts 0 law18_awake_code := ⟨trivial, trivial, ⟨trivial, trivial, ⟨trivial, ⟨trivial, trivial, ⟨⟨trivial, trivial, trivial⟩, trivial⟩⟩, ⟨trivial, trivial, ⟨trivial, trivial, ⟨trivial, trivial, trivial⟩⟩⟩⟩⟩⟩
theorem law18_awake_sok : SpecOk Try.prog 7 law18_awake_spec := func_sound tabOk (envOk_cons oracle_New_sok (envOk_cons oracle_Extend_sok (envOk_cons oracle_Take_sok (envOk_cons oracle_Left_sok envOk_nil)))) mixed Try.func7 rfl (by decide +kernel) (by decide) (by decide) (by kernel_rfl) law18_awake_pok law18_awake_fok
noncomputable def slices_Clone_byte_byte_nil_code : Code := match Try.f26.body with | some c => c | none => .skip
theorem slices_Clone_byte_byte_nil_fok : FuncOk tab (envL slices_Clone_byte_byte_nil_env) slices_Clone_byte_byte_nil_parts Try.f26 slices_Clone_byte_byte_nil_code slices_Clone_byte_byte_nil_spec := fun k x => by kernel_rfl
theorem slices_Clone_byte_byte_nil_pok : PartsOk tab (envL slices_Clone_byte_byte_nil_env) slices_Clone_byte_byte_nil_parts 0 slices_Clone_byte_byte_nil_code := ⟨trivial, trivial, ⟨trivial, ⟨trivial, trivial, ⟨⟨trivial, trivial, trivial⟩, trivial⟩⟩, ⟨trivial, trivial, trivial⟩⟩⟩
theorem slices_Clone_byte_byte_nil_sok : SpecOk Try.prog 26 slices_Clone_byte_byte_nil_spec := func_sound tabOk envOk_nil mixed Try.func26 rfl (by decide +kernel) (by decide) (by decide) (by kernel_rfl) slices_Clone_byte_byte_nil_pok slices_Clone_byte_byte_nil_fok
noncomputable def slices_Clone_byte_byte_code : Code := match Try.f26.body with | some c => c | none => .skip
theorem slices_Clone_byte_byte_fok : FuncOk tab (envL slices_Clone_byte_byte_env) slices_Clone_byte_byte_parts Try.f26 slices_Clone_byte_byte_code slices_Clone_byte_byte_sspec := fun k x => by kernel_rfl
theorem slices_Clone_byte_byte_pok : PartsOk tab (envL slices_Clone_byte_byte_env) slices_Clone_byte_byte_parts 0 slices_Clone_byte_byte_code := ⟨trivial, trivial, ⟨trivial, ⟨trivial, trivial, ⟨⟨trivial, trivial, trivial⟩, trivial⟩⟩, ⟨trivial, trivial, trivial⟩⟩⟩
theorem slices_Clone_byte_byte_ssok : SpecOk Try.prog 26 slices_Clone_byte_byte_sspec := func_sound tabOk envOk_nil mixed Try.func26 rfl (by decide +kernel) (by decide) (by decide) (by kernel_rfl) slices_Clone_byte_byte_pok slices_Clone_byte_byte_fok
theorem slices_Clone_byte_byte_sok : SpecOk Try.prog 26 slices_Clone_byte_byte_spec := spec_nil0 slices_Clone_byte_byte_nil_sok slices_Clone_byte_byte_ssok (fun _ _ _ => rfl) (fun _ _ => by kernel_rfl)
noncomputable def wire_Read_code : Code := match Try.f18.body with | some c => c | none => .skip
theorem wire_Read_fok : FuncOk tab (envL wire_Read_env) wire_Read_parts Try.f18 wire_Read_code wire_Read_spec := fun k x => by kernel_rfl
theorem wire_Read_pok : PartsOk tab (envL wire_Read_env) wire_Read_parts 0 wire_Read_code := ⟨trivial, trivial, ⟨trivial, trivial, trivial⟩⟩
theorem wire_Read_sok : SpecOk Try.prog 18 wire_Read_spec := func_sound tabOk (envOk_cons slices_Clone_byte_byte_sok envOk_nil) mixed Try.func18 rfl (by decide +kernel) (by decide) (by decide) (by kernel_rfl) wire_Read_pok wire_Read_fok
noncomputable def wire_Reader_fine_code : Code := match Try.f27.body with | some c => c | none => .skip
theorem wire_Reader_fine_fok : FuncOk tab (envL wire_Reader_fine_env) wire_Reader_fine_parts Try.f27 wire_Reader_fine_code wire_Reader_fine_spec := fun k x => by kernel_rfl
theorem wire_Reader_fine_pok : PartsOk tab (envL wire_Reader_fine_env) wire_Reader_fine_parts 0 wire_Reader_fine_code := ⟨trivial, trivial, ⟨trivial, trivial, trivial⟩⟩
theorem wire_Reader_fine_sok : SpecOk Try.prog 27 wire_Reader_fine_spec := func_sound tabOk envOk_nil mixed Try.func27 rfl (by decide +kernel) (by decide) (by decide) (by kernel_rfl) wire_Reader_fine_pok wire_Reader_fine_fok
noncomputable def wire_Reader_peek_code : Code := match Try.f28.body with | some c => c | none => .skip
theorem wire_Reader_peek_fok : FuncOk tab (envL wire_Reader_peek_env) wire_Reader_peek_parts Try.f28 wire_Reader_peek_code wire_Reader_peek_spec := fun k x => by kernel_rfl
theorem wire_Reader_peek_pok : PartsOk tab (envL wire_Reader_peek_env) wire_Reader_peek_parts 0 wire_Reader_peek_code := ⟨trivial, trivial, ⟨trivial, trivial, ⟨trivial, ⟨trivial, trivial, ⟨⟨fun _ => by kernel_rfl, fun k x => by kernel_rfl⟩, ⟨trivial, trivial, ⟨trivial, ⟨trivial, trivial⟩, ⟨trivial, ⟨trivial, trivial, ⟨trivial, ⟨trivial, trivial, ⟨trivial, trivial⟩⟩, ⟨trivial, trivial, ⟨trivial, trivial, ⟨⟨trivial, trivial, trivial⟩, trivial⟩⟩⟩⟩⟩, trivial⟩⟩⟩⟩⟩, ⟨trivial, trivial, trivial⟩⟩⟩⟩
theorem wire_Reader_peek_sok : SpecOk Try.prog 28 wire_Reader_peek_spec := func_sound tabOk envOk_nil mixed Try.func28 rfl (by decide +kernel) (by decide) (by decide) (by kernel_rfl) wire_Reader_peek_pok wire_Reader_peek_fok
noncomputable def wire_Reader_fail_code : Code := match Try.f29.body with | some c => c | none => .skip
theorem wire_Reader_fail_fok : FuncOk tab (envL wire_Reader_fail_env) wire_Reader_fail_parts Try.f29 wire_Reader_fail_code wire_Reader_fail_spec := fun k x => by kernel_rfl
theorem wire_Reader_fail_pok : PartsOk tab (envL wire_Reader_fail_env) wire_Reader_fail_parts 0 wire_Reader_fail_code := ⟨trivial, trivial, ⟨trivial, trivial⟩⟩
theorem wire_Reader_fail_sok : SpecOk Try.prog 29 wire_Reader_fail_spec := func_sound tabOk envOk_nil mixed Try.func29 rfl (by decide +kernel) (by decide) (by decide) (by kernel_rfl) wire_Reader_fail_pok wire_Reader_fail_fok
noncomputable def wire_Reader_Uvarint_code : Code := match Try.f19.body with | some c => c | none => .skip
theorem wire_Reader_Uvarint_fok : FuncOk tab (envL wire_Reader_Uvarint_env) wire_Reader_Uvarint_parts Try.f19 wire_Reader_Uvarint_code wire_Reader_Uvarint_spec := fun k x => by kernel_rfl
theorem wire_Reader_Uvarint_pok : PartsOk tab (envL wire_Reader_Uvarint_env) wire_Reader_Uvarint_parts 0 wire_Reader_Uvarint_code := ⟨trivial, trivial, ⟨trivial, ⟨trivial, trivial, ⟨⟨trivial, trivial, trivial⟩, trivial⟩⟩, ⟨trivial, trivial, ⟨trivial, ⟨trivial, trivial, ⟨trivial, trivial⟩⟩, ⟨trivial, trivial, ⟨trivial, trivial, trivial⟩⟩⟩⟩⟩⟩
theorem wire_Reader_Uvarint_sok : SpecOk Try.prog 19 wire_Reader_Uvarint_spec := func_sound tabOk (envOk_cons wire_Reader_fine_sok (envOk_cons wire_Reader_peek_sok (envOk_cons wire_Reader_fail_sok envOk_nil))) mixed Try.func19 rfl (by decide +kernel) (by decide) (by decide) (by kernel_rfl) wire_Reader_Uvarint_pok wire_Reader_Uvarint_fok
noncomputable def wire_Reader_number_code : Code := match Try.f30.body with | some c => c | none => .skip
theorem wire_Reader_number_fok : FuncOk tab (envL wire_Reader_number_env) wire_Reader_number_parts Try.f30 wire_Reader_number_code wire_Reader_number_spec := fun k x => by kernel_rfl
theorem wire_Reader_number_pok : PartsOk tab (envL wire_Reader_number_env) wire_Reader_number_parts 0 wire_Reader_number_code := ⟨trivial, trivial, ⟨trivial, ⟨trivial, trivial, ⟨⟨trivial, trivial, trivial⟩, trivial⟩⟩, ⟨trivial, trivial, ⟨trivial, ⟨trivial, trivial, ⟨trivial, ⟨trivial, trivial, ⟨trivial, ⟨trivial, trivial, trivial⟩⟩⟩⟩⟩, ⟨trivial, trivial, trivial⟩⟩⟩⟩⟩
theorem wire_Reader_number_sok : SpecOk Try.prog 30 wire_Reader_number_spec := func_sound tabOk (envOk_cons wire_Reader_fine_sok (envOk_cons wire_Reader_peek_sok (envOk_cons wire_Reader_fail_sok envOk_nil))) mixed Try.func30 rfl (by decide +kernel) (by decide) (by decide) (by kernel_rfl) wire_Reader_number_pok wire_Reader_number_fok
noncomputable def wire_Reader_Number_code : Code := match Try.f20.body with | some c => c | none => .skip
theorem wire_Reader_Number_fok : FuncOk tab (envL wire_Reader_Number_env) wire_Reader_Number_parts Try.f20 wire_Reader_Number_code wire_Reader_Number_spec := fun k x => by kernel_rfl
theorem wire_Reader_Number_pok : PartsOk tab (envL wire_Reader_Number_env) wire_Reader_Number_parts 0 wire_Reader_Number_code := ⟨trivial, trivial, ⟨trivial, trivial, ⟨trivial, ⟨trivial, trivial, ⟨trivial, trivial⟩⟩, ⟨trivial, trivial, trivial⟩⟩⟩⟩
theorem wire_Reader_Number_sok : SpecOk Try.prog 20 wire_Reader_Number_spec := func_sound tabOk (envOk_cons wire_Reader_number_sok envOk_nil) mixed Try.func20 rfl (by decide +kernel) (by decide) (by decide) (by kernel_rfl) wire_Reader_Number_pok wire_Reader_Number_fok
noncomputable def wire_Reader_Err_code : Code := match Try.f31.body with | some c => c | none => .skip
theorem wire_Reader_Err_fok : FuncOk tab (envL wire_Reader_Err_env) wire_Reader_Err_parts Try.f31 wire_Reader_Err_code wire_Reader_Err_spec := fun k x => by kernel_rfl
theorem wire_Reader_Err_pok : PartsOk tab (envL wire_Reader_Err_env) wire_Reader_Err_parts 0 wire_Reader_Err_code := ⟨trivial, trivial, ⟨trivial, ⟨trivial, trivial, ⟨⟨trivial, trivial, trivial⟩, trivial⟩⟩, ⟨trivial, trivial, trivial⟩⟩⟩
theorem wire_Reader_Err_sok : SpecOk Try.prog 31 wire_Reader_Err_spec := func_sound tabOk envOk_nil mixed Try.func31 rfl (by decide +kernel) (by decide) (by decide) (by kernel_rfl) wire_Reader_Err_pok wire_Reader_Err_fok
noncomputable def wire_Reader_Left_code : Code := match Try.f32.body with | some c => c | none => .skip
theorem wire_Reader_Left_fok : FuncOk tab (envL wire_Reader_Left_env) wire_Reader_Left_parts Try.f32 wire_Reader_Left_code wire_Reader_Left_spec := fun k x => by kernel_rfl
theorem wire_Reader_Left_pok : PartsOk tab (envL wire_Reader_Left_env) wire_Reader_Left_parts 0 wire_Reader_Left_code := ⟨trivial, trivial, ⟨trivial, ⟨trivial, trivial, ⟨⟨trivial, trivial, trivial⟩, trivial⟩⟩, ⟨trivial, trivial, trivial⟩⟩⟩
theorem wire_Reader_Left_sok : SpecOk Try.prog 32 wire_Reader_Left_spec := func_sound tabOk envOk_nil mixed Try.func32 rfl (by decide +kernel) (by decide) (by decide) (by kernel_rfl) wire_Reader_Left_pok wire_Reader_Left_fok
noncomputable def wire_Reader_Done_code : Code := match Try.f21.body with | some c => c | none => .skip
theorem wire_Reader_Done_fok : FuncOk tab (envL wire_Reader_Done_env) wire_Reader_Done_parts Try.f21 wire_Reader_Done_code wire_Reader_Done_spec := fun k x => by kernel_rfl
theorem wire_Reader_Done_pok : PartsOk tab (envL wire_Reader_Done_env) wire_Reader_Done_parts 0 wire_Reader_Done_code := ⟨trivial, trivial, ⟨trivial, ⟨trivial, trivial, ⟨trivial, trivial, ⟨⟨trivial, trivial, trivial⟩, trivial⟩⟩⟩, ⟨trivial, ⟨trivial, trivial, ⟨⟨trivial, trivial, trivial⟩, trivial⟩⟩, ⟨trivial, trivial, trivial⟩⟩⟩⟩
theorem wire_Reader_Done_sok : SpecOk Try.prog 21 wire_Reader_Done_spec := func_sound tabOk (envOk_cons wire_Reader_Err_sok (envOk_cons wire_Reader_Left_sok envOk_nil)) mixed Try.func21 rfl (by decide +kernel) (by decide) (by decide) (by kernel_rfl) wire_Reader_Done_pok wire_Reader_Done_fok
noncomputable def oracle_Decode_code : Code := match Try.f11.body with | some c => c | none => .skip
theorem oracle_Decode_fok : FuncOk tab (envL oracle_Decode_env) oracle_Decode_parts Try.f11 oracle_Decode_code oracle_Decode_spec := fun k x => by kernel_rfl
theorem oracle_Decode_pok : PartsOk tab (envL oracle_Decode_env) oracle_Decode_parts 0 oracle_Decode_code := ⟨trivial, trivial, ⟨trivial, trivial, ⟨trivial, trivial, ⟨trivial, ⟨trivial, trivial, ⟨⟨trivial, trivial, trivial⟩, trivial⟩⟩, ⟨trivial, trivial, trivial⟩⟩⟩⟩⟩
theorem oracle_Decode_sok : SpecOk Try.prog 11 oracle_Decode_spec := func_sound tabOk (envOk_cons wire_Read_sok (envOk_cons wire_Reader_Uvarint_sok (envOk_cons wire_Reader_Number_sok (envOk_cons wire_Reader_Done_sok (envOk_cons oracle_Check_sok envOk_nil))))) mixed Try.func11 rfl (by decide +kernel) (by decide) (by decide) (by kernel_rfl) oracle_Decode_pok oracle_Decode_fok
noncomputable def ref02_next_code : Code := match Try.f33.body with | some c => c | none => .skip
theorem ref02_next_fok : FuncOk tab (envL ref02_next_env) ref02_next_parts Try.f33 ref02_next_code ref02_next_spec := fun k x => by kernel_rfl
theorem ref02_next_pok : PartsOk tab (envL ref02_next_env) ref02_next_parts 0 ref02_next_code := ⟨trivial, trivial, ⟨trivial, ⟨trivial, trivial, ⟨⟨trivial, trivial, trivial⟩, trivial⟩⟩, ⟨trivial, trivial, ⟨trivial, trivial, trivial⟩⟩⟩⟩
theorem ref02_next_sok : SpecOk Try.prog 33 ref02_next_spec := func_sound tabOk envOk_nil mixed Try.func33 rfl (by decide +kernel) (by decide) (by decide) (by kernel_rfl) ref02_next_pok ref02_next_fok
noncomputable def ref02_wrong_code : Code := match Try.f34.body with | some c => c | none => .skip
theorem ref02_wrong_fok : FuncOk tab (envL ref02_wrong_env) ref02_wrong_parts Try.f34 ref02_wrong_code ref02_wrong_spec := fun k x => by kernel_rfl
theorem ref02_wrong_pok : PartsOk tab (envL ref02_wrong_env) ref02_wrong_parts 0 ref02_wrong_code := ⟨trivial, trivial, ⟨⟨trivial, trivial, trivial⟩, trivial⟩⟩
theorem ref02_wrong_sok : SpecOk Try.prog 34 ref02_wrong_spec := func_sound tabOk envOk_nil mixed Try.func34 rfl (by decide +kernel) (by decide) (by decide) (by kernel_rfl) ref02_wrong_pok ref02_wrong_fok
noncomputable def ref02_ReadUvarint_code : Code := match Try.f22.body with | some c => c | none => .skip
theorem ref02_ReadUvarint_fok : FuncOk tab (envL ref02_ReadUvarint_env) ref02_ReadUvarint_parts Try.f22 ref02_ReadUvarint_code ref02_ReadUvarint_spec := fun k x => by kernel_rfl
theorem ref02_ReadUvarint_pok : PartsOk tab (envL ref02_ReadUvarint_env) ref02_ReadUvarint_parts 0 ref02_ReadUvarint_code := ⟨trivial, trivial, ⟨trivial, trivial, ⟨trivial, trivial, ⟨trivial, ⟨trivial, trivial, ⟨⟨fun _ => by kernel_rfl, fun k x => by kernel_rfl⟩, ⟨trivial, ⟨trivial, trivial, ⟨trivial, trivial⟩⟩, ⟨trivial, ⟨trivial, trivial, ⟨trivial, ⟨trivial, trivial, ⟨trivial, trivial⟩⟩, ⟨trivial, trivial, ⟨trivial, ⟨trivial, trivial, ⟨trivial, trivial⟩⟩, ⟨trivial, trivial, ⟨trivial, trivial, ⟨⟨trivial, ⟨trivial, trivial, ⟨trivial, trivial⟩⟩, ⟨trivial, trivial, trivial⟩⟩, trivial⟩⟩⟩⟩⟩⟩⟩, trivial⟩⟩⟩⟩, ⟨trivial, trivial, ⟨trivial, trivial, trivial⟩⟩⟩⟩⟩⟩
theorem ref02_ReadUvarint_sok : SpecOk Try.prog 22 ref02_ReadUvarint_spec := func_sound tabOk (envOk_cons ref02_next_sok (envOk_cons ref02_wrong_sok envOk_nil)) mixed Try.func22 rfl (by decide +kernel) (by decide) (by decide) (by kernel_rfl) ref02_ReadUvarint_pok ref02_ReadUvarint_fok
noncomputable def ref02_ReadNumber_code : Code := match Try.f23.body with | some c => c | none => .skip
theorem ref02_ReadNumber_fok : FuncOk tab (envL ref02_ReadNumber_env) ref02_ReadNumber_parts Try.f23 ref02_ReadNumber_code ref02_ReadNumber_spec := fun k x => by kernel_rfl
theorem ref02_ReadNumber_pok : PartsOk tab (envL ref02_ReadNumber_env) ref02_ReadNumber_parts 0 ref02_ReadNumber_code := ⟨trivial, trivial, ⟨trivial, trivial, ⟨trivial, trivial, ⟨trivial, ⟨trivial, trivial, ⟨⟨trivial, trivial, trivial⟩, trivial⟩⟩, ⟨trivial, ⟨trivial, trivial, ⟨⟨trivial, trivial, ⟨trivial, trivial, trivial⟩⟩, trivial⟩⟩, ⟨trivial, trivial, trivial⟩⟩⟩⟩⟩⟩
theorem ref02_ReadNumber_sok : SpecOk Try.prog 23 ref02_ReadNumber_spec := func_sound tabOk (envOk_cons ref02_ReadUvarint_sok (envOk_cons ref02_wrong_sok envOk_nil)) mixed Try.func23 rfl (by decide +kernel) (by decide) (by decide) (by kernel_rfl) ref02_ReadNumber_pok ref02_ReadNumber_fok
noncomputable def ref18_May_code : Code := match Try.f6.body with | some c => c | none => .skip
theorem ref18_May_fok : FuncOk tab (envL ref18_May_env) ref18_May_parts Try.f6 ref18_May_code ref18_May_spec := fun k x => by kernel_rfl
theorem ref18_May_pok : PartsOk tab (envL ref18_May_env) ref18_May_parts 0 ref18_May_code := ⟨trivial, trivial, ⟨trivial, ⟨trivial, trivial, ⟨⟨trivial, trivial, trivial⟩, trivial⟩⟩, ⟨trivial, trivial, trivial⟩⟩⟩
theorem ref18_May_sok : SpecOk Try.prog 6 ref18_May_spec := func_sound tabOk envOk_nil mixed Try.func6 rfl (by decide +kernel) (by decide) (by decide) (by kernel_rfl) ref18_May_pok ref18_May_fok
noncomputable def ref02_Uvarint_code : Code := match Try.f25.body with | some c => c | none => .skip
theorem ref02_Uvarint_fok : FuncOk tab (envL ref02_Uvarint_env) ref02_Uvarint_parts Try.f25 ref02_Uvarint_code ref02_Uvarint_spec := fun k x => by kernel_rfl
theorem ref02_Uvarint_pok : PartsOk tab (envL ref02_Uvarint_env) ref02_Uvarint_parts 0 ref02_Uvarint_code := ⟨trivial, trivial, ⟨trivial, trivial, ⟨trivial, ⟨⟨fun _ => by kernel_rfl, fun k x => by kernel_rfl⟩, ⟨trivial, ⟨trivial, trivial, ⟨trivial, trivial⟩⟩, ⟨trivial, trivial, trivial⟩⟩⟩, ⟨trivial, trivial, trivial⟩⟩⟩⟩
theorem ref02_Uvarint_sok : SpecOk Try.prog 25 ref02_Uvarint_spec := func_sound tabOk envOk_nil mixed Try.func25 rfl (by decide +kernel) (by decide) (by decide) (by kernel_rfl) ref02_Uvarint_pok ref02_Uvarint_fok
noncomputable def ref18_Encode_code : Code := match Try.f14.body with | some c => c | none => .skip
theorem ref18_Encode_fok : FuncOk tab (envL ref18_Encode_env) ref18_Encode_parts Try.f14 ref18_Encode_code ref18_Encode_spec := fun k x => by kernel_rfl
theorem ref18_Encode_pok : PartsOk tab (envL ref18_Encode_env) ref18_Encode_parts 0 ref18_Encode_code := ⟨trivial, trivial, ⟨trivial, trivial, ⟨trivial, ⟨trivial, trivial, ⟨⟨trivial, trivial, trivial⟩, trivial⟩⟩, ⟨trivial, trivial, trivial⟩⟩⟩⟩
theorem ref18_Encode_sok : SpecOk Try.prog 14 ref18_Encode_spec := func_sound tabOk (envOk_cons ref02_Uvarint_sok envOk_nil) mixed Try.func14 rfl (by decide +kernel) (by decide) (by decide) (by kernel_rfl) ref18_Encode_pok ref18_Encode_fok
noncomputable def ref18_Decode_code : Code := match Try.f12.body with | some c => c | none => .skip
theorem ref18_Decode_fok : FuncOk tab (envL ref18_Decode_env) ref18_Decode_parts Try.f12 ref18_Decode_code ref18_Decode_spec := fun k x => by kernel_rfl
theorem ref18_Decode_pok : PartsOk tab (envL ref18_Decode_env) ref18_Decode_parts 0 ref18_Decode_code := ⟨trivial, trivial, ⟨trivial, trivial, ⟨trivial, trivial, ⟨trivial, trivial, ⟨trivial, trivial, ⟨trivial, ⟨trivial, trivial, ⟨⟨trivial, trivial, trivial⟩, trivial⟩⟩, ⟨trivial, trivial, trivial⟩⟩⟩⟩⟩⟩⟩
theorem ref18_Decode_sok : SpecOk Try.prog 12 ref18_Decode_spec := func_sound tabOk (envOk_cons ref02_ReadUvarint_sok (envOk_cons ref02_ReadNumber_sok (envOk_cons ref18_May_sok (envOk_cons ref18_Encode_sok envOk_nil)))) mixed Try.func12 rfl (by decide +kernel) (by decide) (by decide) (by kernel_rfl) ref18_Decode_pok ref18_Decode_fok
noncomputable def law18_OracleDecodes_code : Code := match Try.f4.body with | some c => c | none => .skip
theorem law18_OracleDecodes_fok : FuncOk tab (envL law18_OracleDecodes_env) law18_OracleDecodes_parts Try.f4 law18_OracleDecodes_code law18_OracleDecodes_spec := fun k x => by kernel_rfl
theorem law18_OracleDecodes_pok : PartsOk tab (envL law18_OracleDecodes_env) law18_OracleDecodes_parts 0 law18_OracleDecodes_code := ⟨trivial, trivial, ⟨trivial, ⟨trivial, trivial, ⟨⟨trivial, trivial, trivial⟩, trivial⟩⟩, ⟨trivial, trivial, ⟨trivial, trivial, ⟨trivial, trivial, trivial⟩⟩⟩⟩⟩
theorem law18_OracleDecodes_sok : SpecOk Try.prog 4 law18_OracleDecodes_spec := func_sound tabOk (envOk_cons law18_awake_sok (envOk_cons oracle_Decode_sok (envOk_cons ref18_Decode_sok envOk_nil))) mixed Try.func4 rfl (by decide +kernel) (by decide) (by decide) (by kernel_rfl) law18_OracleDecodes_pok law18_OracleDecodes_fok
noncomputable def wire_own_code : Code := match Try.f35.body with | some c => c | none => .skip
theorem wire_own_fok : FuncOk tab (envL wire_own_env) wire_own_parts Try.f35 wire_own_code wire_own_spec := fun k x => by kernel_rfl
theorem wire_own_pok : PartsOk tab (envL wire_own_env) wire_own_parts 0 wire_own_code := ⟨trivial, trivial, ⟨trivial, trivial, trivial⟩⟩
theorem wire_own_sok : SpecOk Try.prog 35 wire_own_spec := func_sound tabOk envOk_nil mixed Try.func35 rfl (by decide +kernel) (by decide) (by decide) (by kernel_rfl) wire_own_pok wire_own_fok
noncomputable def wire_Uvarint_code : Code := match Try.f24.body with | some c => c | none => .skip
theorem wire_Uvarint_fok : FuncOk tab (envL wire_Uvarint_env) wire_Uvarint_parts Try.f24 wire_Uvarint_code wire_Uvarint_spec := fun k x => by kernel_rfl
theorem wire_Uvarint_pok : PartsOk tab (envL wire_Uvarint_env) wire_Uvarint_parts 0 wire_Uvarint_code := ⟨trivial, trivial, ⟨trivial, trivial, ⟨trivial, ⟨⟨fun _ => by kernel_rfl, fun k x => by kernel_rfl⟩, ⟨trivial, ⟨trivial, trivial, ⟨trivial, trivial⟩⟩, ⟨trivial, trivial, trivial⟩⟩⟩, ⟨trivial, trivial, trivial⟩⟩⟩⟩
theorem wire_Uvarint_sok : SpecOk Try.prog 24 wire_Uvarint_spec := func_sound tabOk (envOk_cons wire_own_sok envOk_nil) mixed Try.func24 rfl (by decide +kernel) (by decide) (by decide) (by kernel_rfl) wire_Uvarint_pok wire_Uvarint_fok
noncomputable def oracle_Encode_code : Code := match Try.f13.body with | some c => c | none => .skip
theorem oracle_Encode_fok : FuncOk tab (envL oracle_Encode_env) oracle_Encode_parts Try.f13 oracle_Encode_code oracle_Encode_spec := fun k x => by kernel_rfl
theorem oracle_Encode_pok : PartsOk tab (envL oracle_Encode_env) oracle_Encode_parts 0 oracle_Encode_code := ⟨trivial, trivial, ⟨trivial, ⟨trivial, trivial, ⟨trivial, trivial, ⟨⟨trivial, trivial, trivial⟩, trivial⟩⟩⟩, ⟨trivial, trivial, ⟨trivial, ⟨trivial, trivial, ⟨trivial, trivial⟩⟩, ⟨trivial, trivial, trivial⟩⟩⟩⟩⟩
theorem oracle_Encode_sok : SpecOk Try.prog 13 oracle_Encode_spec := func_sound tabOk (envOk_cons oracle_Check_sok (envOk_cons wire_Uvarint_sok envOk_nil)) mixed Try.func13 rfl (by decide +kernel) (by decide) (by decide) (by kernel_rfl) oracle_Encode_pok oracle_Encode_fok
noncomputable def law18_OracleCodes_code : Code := match Try.f5.body with | some c => c | none => .skip
theorem law18_OracleCodes_fok : FuncOk tab (envL law18_OracleCodes_env) law18_OracleCodes_parts Try.f5 law18_OracleCodes_code law18_OracleCodes_spec := fun k x => by kernel_rfl
theorem law18_OracleCodes_pok : PartsOk tab (envL law18_OracleCodes_env) law18_OracleCodes_parts 0 law18_OracleCodes_code := ⟨trivial, trivial, ⟨trivial, trivial, ⟨trivial, ⟨trivial, trivial, ⟨⟨trivial, trivial, trivial⟩, trivial⟩⟩, ⟨trivial, trivial, ⟨trivial, trivial, trivial⟩⟩⟩⟩⟩
theorem law18_OracleCodes_sok : SpecOk Try.prog 5 law18_OracleCodes_spec := func_sound tabOk (envOk_cons oracle_Encode_sok (envOk_cons ref18_May_sok (envOk_cons law18_awake_sok (envOk_cons oracle_Decode_sok (envOk_cons ref18_Encode_sok envOk_nil))))) mixed Try.func5 rfl (by decide +kernel) (by decide) (by decide) (by kernel_rfl) law18_OracleCodes_pok law18_OracleCodes_fok
end Go.Proofs.Ytlmfnbcnfhiheaa.gg
