/- That the code computes so: printed by a program of our own. -/
import Derived.Test.YtcbmmkjlppjfoaaDoorM
import Derived.Test.YtcbmmkjlppjfoaaDoorProg
import Derived.KernelRfl
import Derived.Test.YtcbmmkjlppjfoaaDoorLays
open Go Go.GG Go.Proofs
set_option linter.unusedVariables false
namespace Go.Proofs.YtcbmmkjlppjfoaaDoor.gg
set_option maxRecDepth 100000
set_option maxRecDepth 100000 in
theorem tabOk : TabOk Tryd.prog tab := (tabOk_cons ⟨by kernel_rfl, by kernel_rfl, rfl, by kernel_rfl, fun h => by cases h⟩ (tabOk_cons ⟨by kernel_rfl, by kernel_rfl, rfl, by kernel_rfl, fun h => by cases h⟩ (tabOk_cons ⟨by kernel_rfl, by kernel_rfl, rfl, by kernel_rfl, fun h => by cases h⟩ (tabOk_cons ⟨by kernel_rfl, by kernel_rfl, rfl, by kernel_rfl, fun h => by cases h⟩ (tabOk_cons ⟨by kernel_rfl, by kernel_rfl, rfl, by kernel_rfl, fun h => by cases h⟩ (tabOk_cons ⟨by kernel_rfl, by kernel_rfl, rfl, by kernel_rfl, fun h => by cases h⟩ (tabOk_cons ⟨by kernel_rfl, by kernel_rfl, rfl, by kernel_rfl, fun h => by cases h⟩ (tabOk_cons ⟨by kernel_rfl, by kernel_rfl, rfl, by kernel_rfl, fun h => by cases h⟩ (tabOk_cons ⟨by kernel_rfl, by kernel_rfl, rfl, by kernel_rfl, fun h => by cases h⟩ (tabOk_cons ⟨by kernel_rfl, by kernel_rfl, rfl, by kernel_rfl, fun h => by cases h⟩ (tabOk_cons ⟨by kernel_rfl, by kernel_rfl, rfl, by kernel_rfl, fun h => by cases h⟩ (tabOk_cons ⟨by kernel_rfl, by kernel_rfl, rfl, by kernel_rfl, fun h => by cases h⟩ (tabOk_cons ⟨by kernel_rfl, by kernel_rfl, rfl, by kernel_rfl, fun h => by cases h⟩ (tabOk_cons ⟨by kernel_rfl, by kernel_rfl, rfl, by kernel_rfl, fun h => by cases h⟩ (tabOk_cons ⟨by kernel_rfl, by kernel_rfl, rfl, by kernel_rfl, fun h => by cases h⟩ (tabOk_cons ⟨by kernel_rfl, by kernel_rfl, rfl, by kernel_rfl, fun h => by cases h⟩ (tabOk_cons ⟨by kernel_rfl, by kernel_rfl, rfl, by kernel_rfl, fun h => by cases h⟩ (tabOk_cons ⟨by kernel_rfl, by kernel_rfl, rfl, by kernel_rfl, fun h => by cases h⟩ (tabOk_cons ⟨by kernel_rfl, by kernel_rfl, rfl, by kernel_rfl, fun h => by cases h⟩ tabOk_nil)))))))))))))))))))
theorem mixed : Tryd.prog.follows .mixedOrders = true := by kernel_rfl
noncomputable def disk_New_code : Code := match Tryd.f8.body with | some c => c | none => .skip
theorem disk_New_fok : FuncOk tab (envL disk_New_env) disk_New_parts Tryd.f8 disk_New_code disk_New_spec := fun k x => by kernel_rfl
theorem disk_New_pok : PartsOk tab (envL disk_New_env) disk_New_parts 0 disk_New_code := ⟨trivial, trivial, ⟨trivial, trivial, trivial⟩⟩
theorem disk_New_sok : SpecOk Tryd.prog 8 disk_New_spec := func_sound tabOk envOk_nil mixed Tryd.func8 rfl (by decide +kernel) (by decide) (by decide) (by kernel_rfl) disk_New_pok disk_New_fok
theorem strconv_Itoa_sok : SpecOk Tryd.prog 27 strconv_Itoa_spec := itoa_ok Tryd.laysItoa (g := 1) (by kernel_rfl) rfl (⟨_, Tryd.func27, by decide +kernel, by kernel_rfl⟩)
noncomputable def disk_Disk_is_code : Code := match Tryd.f31.body with | some c => c | none => .skip
theorem disk_Disk_is_fok : FuncOk tab (envL disk_Disk_is_env) disk_Disk_is_parts Tryd.f31 disk_Disk_is_code disk_Disk_is_spec := fun k x => by kernel_rfl
theorem disk_Disk_is_pok : PartsOk tab (envL disk_Disk_is_env) disk_Disk_is_parts 0 disk_Disk_is_code := ⟨trivial, trivial, ⟨trivial, trivial, trivial⟩⟩
theorem disk_Disk_is_sok : SpecOk Tryd.prog 31 disk_Disk_is_spec := func_sound tabOk envOk_nil mixed Tryd.func31 rfl (by decide +kernel) (by decide) (by decide) (by kernel_rfl) disk_Disk_is_pok disk_Disk_is_fok
noncomputable def disk_Disk_find_code : Code := match Tryd.f30.body with | some c => c | none => .skip
theorem disk_Disk_find_fok : FuncOk tab (envL disk_Disk_find_env) disk_Disk_find_parts Tryd.f30 disk_Disk_find_code disk_Disk_find_spec := fun k x => by kernel_rfl
theorem disk_Disk_find_pok : PartsOk tab (envL disk_Disk_find_env) disk_Disk_find_parts 0 disk_Disk_find_code := ⟨trivial, trivial, ⟨trivial, ⟨trivial, trivial, ⟨⟨trivial, trivial, trivial⟩, trivial⟩⟩, ⟨trivial, trivial, ⟨trivial, ⟨trivial, trivial, ⟨⟨trivial, trivial, trivial⟩, trivial⟩⟩, ⟨trivial, trivial, trivial⟩⟩⟩⟩⟩
theorem disk_Disk_find_sok : SpecOk Tryd.prog 30 disk_Disk_find_spec := func_sound tabOk (envOk_cons disk_Disk_is_sok envOk_nil) mixed Tryd.func30 rfl (by decide +kernel) (by decide) (by decide) (by kernel_rfl) disk_Disk_find_pok disk_Disk_find_fok
noncomputable def disk_Disk_Sync_code : Code := match Tryd.f18.body with | some c => c | none => .skip
theorem disk_Disk_Sync_fok : FuncOk tab (envL disk_Disk_Sync_env) disk_Disk_Sync_parts Tryd.f18 disk_Disk_Sync_code disk_Disk_Sync_spec := fun k x => by kernel_rfl
theorem disk_Disk_Sync_pok : PartsOk tab (envL disk_Disk_Sync_env) disk_Disk_Sync_parts 0 disk_Disk_Sync_code := ⟨trivial, trivial, ⟨trivial, trivial, ⟨trivial, ⟨trivial, trivial, ⟨trivial, trivial⟩⟩, ⟨trivial, trivial, trivial⟩⟩⟩⟩
theorem disk_Disk_Sync_sok : SpecOk Tryd.prog 18 disk_Disk_Sync_spec := func_sound tabOk (envOk_cons disk_Disk_find_sok envOk_nil) mixed Tryd.func18 rfl (by decide +kernel) (by decide) (by decide) (by kernel_rfl) disk_Disk_Sync_pok disk_Disk_Sync_fok
noncomputable def snap_name_code : Code := match Tryd.f13.body with | some c => c | none => .skip
theorem snap_name_fok : FuncOk tab (envL snap_name_env) snap_name_parts Tryd.f13 snap_name_code snap_name_spec := fun k x => by kernel_rfl
theorem snap_name_pok : PartsOk tab (envL snap_name_env) snap_name_parts 0 snap_name_code := ⟨trivial, trivial, ⟨trivial, trivial, trivial⟩⟩
theorem snap_name_sok : SpecOk Tryd.prog 13 snap_name_spec := func_sound tabOk (envOk_cons strconv_Itoa_sok (envOk_cons disk_Disk_Sync_sok envOk_nil)) mixed Tryd.func13 rfl (by decide +kernel) (by decide) (by decide) (by kernel_rfl) snap_name_pok snap_name_fok
noncomputable def wire_own_code : Code := match Tryd.f29.body with | some c => c | none => .skip
theorem wire_own_fok : FuncOk tab (envL wire_own_env) wire_own_parts Tryd.f29 wire_own_code wire_own_spec := fun k x => by kernel_rfl
theorem wire_own_pok : PartsOk tab (envL wire_own_env) wire_own_parts 0 wire_own_code := ⟨trivial, trivial, ⟨trivial, trivial, trivial⟩⟩
theorem wire_own_sok : SpecOk Tryd.prog 29 wire_own_spec := func_sound tabOk envOk_nil mixed Tryd.func29 rfl (by decide +kernel) (by decide) (by decide) (by kernel_rfl) wire_own_pok wire_own_fok
noncomputable def wire_Uvarint_code : Code := match Tryd.f15.body with | some c => c | none => .skip
theorem wire_Uvarint_fok : FuncOk tab (envL wire_Uvarint_env) wire_Uvarint_parts Tryd.f15 wire_Uvarint_code wire_Uvarint_spec := fun k x => by kernel_rfl
theorem wire_Uvarint_pok : PartsOk tab (envL wire_Uvarint_env) wire_Uvarint_parts 0 wire_Uvarint_code := ⟨trivial, trivial, ⟨trivial, trivial, ⟨trivial, ⟨⟨fun _ => by kernel_rfl, fun k x => by kernel_rfl⟩, ⟨trivial, ⟨trivial, trivial, ⟨trivial, trivial⟩⟩, ⟨trivial, trivial, trivial⟩⟩⟩, ⟨trivial, trivial, trivial⟩⟩⟩⟩
theorem wire_Uvarint_sok : SpecOk Tryd.prog 15 wire_Uvarint_spec := func_sound tabOk (envOk_cons wire_own_sok envOk_nil) mixed Tryd.func15 rfl (by decide +kernel) (by decide) (by decide) (by kernel_rfl) wire_Uvarint_pok wire_Uvarint_fok
noncomputable def crc_Step_code : Code := match Tryd.f47.body with | some c => c | none => .skip
theorem crc_Step_fok : FuncOk tab (envL crc_Step_env) crc_Step_parts Tryd.f47 crc_Step_code crc_Step_spec := fun k x => by kernel_rfl
theorem crc_Step_pok : PartsOk tab (envL crc_Step_env) crc_Step_parts 0 crc_Step_code := ⟨trivial, trivial, ⟨trivial, trivial, ⟨trivial, ⟨trivial, trivial, ⟨⟨fun _ => by kernel_rfl, fun k x => by kernel_rfl⟩, ⟨trivial, trivial, ⟨trivial, ⟨trivial, trivial⟩, ⟨trivial, ⟨trivial, trivial, ⟨trivial, trivial, ⟨trivial, trivial, trivial⟩⟩⟩, trivial⟩⟩⟩⟩⟩, ⟨trivial, trivial, trivial⟩⟩⟩⟩
theorem crc_Step_sok : SpecOk Tryd.prog 47 crc_Step_spec := func_sound tabOk envOk_nil mixed Tryd.func47 rfl (by decide +kernel) (by decide) (by decide) (by kernel_rfl) crc_Step_pok crc_Step_fok
noncomputable def crc_Of_code : Code := match Tryd.f41.body with | some c => c | none => .skip
theorem crc_Of_fok : FuncOk tab (envL crc_Of_env) crc_Of_parts Tryd.f41 crc_Of_code crc_Of_spec := fun k x => by kernel_rfl
theorem crc_Of_pok : PartsOk tab (envL crc_Of_env) crc_Of_parts 0 crc_Of_code := ⟨trivial, trivial, ⟨trivial, trivial, trivial⟩⟩
theorem crc_Of_sok : SpecOk Tryd.prog 41 crc_Of_spec := func_sound tabOk (envOk_cons crc_Step_sok envOk_nil) mixed Tryd.func41 rfl (by decide +kernel) (by decide) (by decide) (by kernel_rfl) crc_Of_pok crc_Of_fok
noncomputable def crc_Seal_code : Code := match Tryd.f28.body with | some c => c | none => .skip
theorem crc_Seal_fok : FuncOk tab (envL crc_Seal_env) crc_Seal_parts Tryd.f28 crc_Seal_code crc_Seal_spec := fun k x => by kernel_rfl
theorem crc_Seal_pok : PartsOk tab (envL crc_Seal_env) crc_Seal_parts 0 crc_Seal_code := ⟨trivial, trivial, ⟨trivial, trivial, ⟨trivial, trivial, trivial⟩⟩⟩
theorem crc_Seal_sok : SpecOk Tryd.prog 28 crc_Seal_spec := func_sound tabOk (envOk_cons crc_Of_sok envOk_nil) mixed Tryd.func28 rfl (by decide +kernel) (by decide) (by decide) (by kernel_rfl) crc_Seal_pok crc_Seal_fok
noncomputable def frame_Put_code : Code := match Tryd.f14.body with | some c => c | none => .skip
theorem frame_Put_fok : FuncOk tab (envL frame_Put_env) frame_Put_parts Tryd.f14 frame_Put_code frame_Put_spec := fun k x => by kernel_rfl
theorem frame_Put_pok : PartsOk tab (envL frame_Put_env) frame_Put_parts 0 frame_Put_code := ⟨trivial, trivial, ⟨trivial, ⟨trivial, trivial, ⟨⟨trivial, trivial, trivial⟩, trivial⟩⟩, ⟨trivial, trivial, ⟨trivial, trivial, trivial⟩⟩⟩⟩
theorem frame_Put_sok : SpecOk Tryd.prog 14 frame_Put_spec := func_sound tabOk (envOk_cons crc_Seal_sok (envOk_cons wire_Uvarint_sok envOk_nil)) mixed Tryd.func14 rfl (by decide +kernel) (by decide) (by decide) (by kernel_rfl) frame_Put_pok frame_Put_fok
noncomputable def slices_Clone_byte_byte_nil_code : Code := match Tryd.f12.body with | some c => c | none => .skip
theorem slices_Clone_byte_byte_nil_fok : FuncOk tab (envL slices_Clone_byte_byte_nil_env) slices_Clone_byte_byte_nil_parts Tryd.f12 slices_Clone_byte_byte_nil_code slices_Clone_byte_byte_nil_spec := fun k x => by kernel_rfl
theorem slices_Clone_byte_byte_nil_pok : PartsOk tab (envL slices_Clone_byte_byte_nil_env) slices_Clone_byte_byte_nil_parts 0 slices_Clone_byte_byte_nil_code := ⟨trivial, trivial, ⟨trivial, ⟨trivial, trivial, ⟨⟨trivial, trivial, trivial⟩, trivial⟩⟩, ⟨trivial, trivial, trivial⟩⟩⟩
theorem slices_Clone_byte_byte_nil_sok : SpecOk Tryd.prog 12 slices_Clone_byte_byte_nil_spec := func_sound tabOk envOk_nil mixed Tryd.func12 rfl (by decide +kernel) (by decide) (by decide) (by kernel_rfl) slices_Clone_byte_byte_nil_pok slices_Clone_byte_byte_nil_fok
noncomputable def slices_Clone_byte_byte_code : Code := match Tryd.f12.body with | some c => c | none => .skip
theorem slices_Clone_byte_byte_fok : FuncOk tab (envL slices_Clone_byte_byte_env) slices_Clone_byte_byte_parts Tryd.f12 slices_Clone_byte_byte_code slices_Clone_byte_byte_sspec := fun k x => by kernel_rfl
theorem slices_Clone_byte_byte_pok : PartsOk tab (envL slices_Clone_byte_byte_env) slices_Clone_byte_byte_parts 0 slices_Clone_byte_byte_code := ⟨trivial, trivial, ⟨trivial, ⟨trivial, trivial, ⟨⟨trivial, trivial, trivial⟩, trivial⟩⟩, ⟨trivial, trivial, trivial⟩⟩⟩
theorem slices_Clone_byte_byte_ssok : SpecOk Tryd.prog 12 slices_Clone_byte_byte_sspec := func_sound tabOk envOk_nil mixed Tryd.func12 rfl (by decide +kernel) (by decide) (by decide) (by kernel_rfl) slices_Clone_byte_byte_pok slices_Clone_byte_byte_fok
theorem slices_Clone_byte_byte_sok : SpecOk Tryd.prog 12 slices_Clone_byte_byte_spec := spec_nil0 slices_Clone_byte_byte_nil_sok slices_Clone_byte_byte_ssok (fun _ _ _ => rfl) (fun _ _ => by kernel_rfl)
noncomputable def disk_Disk_Cut_code : Code := match Tryd.f16.body with | some c => c | none => .skip
theorem disk_Disk_Cut_fok : FuncOk tab (envL disk_Disk_Cut_env) disk_Disk_Cut_parts Tryd.f16 disk_Disk_Cut_code disk_Disk_Cut_spec := fun k x => by kernel_rfl
theorem disk_Disk_Cut_pok : PartsOk tab (envL disk_Disk_Cut_env) disk_Disk_Cut_parts 0 disk_Disk_Cut_code := ⟨trivial, trivial, ⟨trivial, trivial, ⟨trivial, ⟨trivial, trivial, ⟨⟨trivial, trivial, trivial⟩, trivial⟩⟩, ⟨trivial, ⟨trivial, trivial, ⟨⟨trivial, trivial, trivial⟩, trivial⟩⟩, ⟨trivial, trivial, ⟨trivial, trivial, trivial⟩⟩⟩⟩⟩⟩
theorem disk_Disk_Cut_sok : SpecOk Tryd.prog 16 disk_Disk_Cut_spec := func_sound tabOk (envOk_cons disk_Disk_find_sok (envOk_cons slices_Clone_byte_byte_sok envOk_nil)) mixed Tryd.func16 rfl (by decide +kernel) (by decide) (by decide) (by kernel_rfl) disk_Disk_Cut_pok disk_Disk_Cut_fok
theorem strings_Trim_sok : SpecOk Tryd.prog 42 strings_Trim_spec := trim_ok Tryd.laysTrim (by kernel_rfl) (⟨_, Tryd.func42, by decide +kernel, by kernel_rfl⟩)
noncomputable def disk_may_code : Code := match Tryd.f32.body with | some c => c | none => .skip
theorem disk_may_fok : FuncOk tab (envL disk_may_env) disk_may_parts Tryd.f32 disk_may_code disk_may_spec := fun k x => by kernel_rfl
theorem disk_may_pok : PartsOk tab (envL disk_may_env) disk_may_parts 0 disk_may_code := ⟨trivial, trivial, ⟨trivial, trivial, trivial⟩⟩
theorem disk_may_sok : SpecOk Tryd.prog 32 disk_may_spec := func_sound tabOk (envOk_cons strings_Trim_sok envOk_nil) mixed Tryd.func32 rfl (by decide +kernel) (by decide) (by decide) (by kernel_rfl) disk_may_pok disk_may_fok
noncomputable def disk_Disk_Append_code : Code := match Tryd.f17.body with | some c => c | none => .skip
theorem disk_Disk_Append_fok : FuncOk tab (envL disk_Disk_Append_env) disk_Disk_Append_parts Tryd.f17 disk_Disk_Append_code disk_Disk_Append_spec := fun k x => by kernel_rfl
theorem disk_Disk_Append_pok : PartsOk tab (envL disk_Disk_Append_env) disk_Disk_Append_parts 0 disk_Disk_Append_code := ⟨trivial, trivial, ⟨trivial, ⟨trivial, trivial, ⟨⟨trivial, trivial, trivial⟩, trivial⟩⟩, ⟨trivial, trivial, ⟨trivial, ⟨trivial, trivial, ⟨trivial, trivial⟩⟩, ⟨trivial, ⟨trivial, trivial, ⟨⟨trivial, trivial, trivial⟩, trivial⟩⟩, ⟨trivial, trivial, ⟨trivial, trivial, ⟨trivial, trivial, trivial⟩⟩⟩⟩⟩⟩⟩⟩
theorem disk_Disk_Append_sok : SpecOk Tryd.prog 17 disk_Disk_Append_spec := func_sound tabOk (envOk_cons disk_Disk_is_sok (envOk_cons disk_may_sok envOk_nil)) mixed Tryd.func17 rfl (by decide +kernel) (by decide) (by decide) (by kernel_rfl) disk_Disk_Append_pok disk_Disk_Append_fok
noncomputable def disk_Disk_Rename_code : Code := match Tryd.f19.body with | some c => c | none => .skip
theorem disk_Disk_Rename_fok : FuncOk tab (envL disk_Disk_Rename_env) disk_Disk_Rename_parts Tryd.f19 disk_Disk_Rename_code disk_Disk_Rename_spec := fun k x => by kernel_rfl
theorem disk_Disk_Rename_pok : PartsOk tab (envL disk_Disk_Rename_env) disk_Disk_Rename_parts 0 disk_Disk_Rename_code := ⟨trivial, trivial, ⟨trivial, trivial, ⟨trivial, ⟨trivial, trivial, ⟨⟨trivial, trivial, trivial⟩, trivial⟩⟩, ⟨trivial, ⟨trivial, trivial, ⟨⟨trivial, trivial, trivial⟩, trivial⟩⟩, ⟨trivial, trivial, ⟨trivial, trivial, ⟨trivial, trivial, trivial⟩⟩⟩⟩⟩⟩⟩
theorem disk_Disk_Rename_sok : SpecOk Tryd.prog 19 disk_Disk_Rename_spec := func_sound tabOk (envOk_cons disk_Disk_find_sok (envOk_cons disk_may_sok envOk_nil)) mixed Tryd.func19 rfl (by decide +kernel) (by decide) (by decide) (by kernel_rfl) disk_Disk_Rename_pok disk_Disk_Rename_fok
noncomputable def snap_Save_code : Code := match Tryd.f9.body with | some c => c | none => .skip
theorem snap_Save_fok : FuncOk tab (envL snap_Save_env) snap_Save_parts Tryd.f9 snap_Save_code snap_Save_spec := fun k x => by kernel_rfl
theorem snap_Save_pok : PartsOk tab (envL snap_Save_env) snap_Save_parts 0 snap_Save_code := ⟨trivial, trivial, ⟨trivial, trivial, ⟨trivial, ⟨trivial, trivial, ⟨⟨trivial, trivial, trivial⟩, trivial⟩⟩, ⟨trivial, trivial, ⟨trivial, trivial, ⟨trivial, trivial, ⟨trivial, ⟨trivial, trivial, ⟨⟨trivial, trivial, trivial⟩, trivial⟩⟩, ⟨trivial, trivial, ⟨trivial, trivial, ⟨trivial, trivial, trivial⟩⟩⟩⟩⟩⟩⟩⟩⟩⟩
theorem snap_Save_sok : SpecOk Tryd.prog 9 snap_Save_spec := func_sound tabOk (envOk_cons snap_name_sok (envOk_cons wire_Uvarint_sok (envOk_cons frame_Put_sok (envOk_cons disk_Disk_Cut_sok (envOk_cons disk_Disk_Append_sok (envOk_cons disk_Disk_Sync_sok (envOk_cons disk_Disk_Rename_sok envOk_nil))))))) mixed Tryd.func9 rfl (by decide +kernel) (by decide) (by decide) (by kernel_rfl) snap_Save_pok snap_Save_fok
theorem maps_Keys_map_string_disk_file_string_disk_file_sok : RowOk Tryd.prog 34 maps_Keys_map_string_disk_file_string_disk_file_spec := keys_ok Tryd.laysKeys (⟨_, Tryd.func34, by decide +kernel, by kernel_rfl⟩)
theorem slices_Sorted_string_sok : RowOk Tryd.prog 33 slices_Sorted_string_spec := seq_ok Tryd.laysKeys Tryd.laysSorted Tryd.laysSort rfl (by kernel_rfl) (enters_of Tryd.func44 (by kernel_rfl) rfl) (enters_of Tryd.func45 (by kernel_rfl) rfl) (⟨_, Tryd.func33, by decide +kernel, by kernel_rfl⟩)
noncomputable def disk_Disk_names_code : Code := match Tryd.f20.body with | some c => c | none => .skip
theorem disk_Disk_names_fok : FuncOk tab (envL disk_Disk_names_env) disk_Disk_names_parts Tryd.f20 disk_Disk_names_code disk_Disk_names_spec := fun k x => by kernel_rfl
theorem disk_Disk_names_pok : PartsOk tab (envL disk_Disk_names_env) disk_Disk_names_parts 0 disk_Disk_names_code := ⟨trivial, trivial, ⟨trivial, ⟨trivial, trivial, ⟨⟨trivial, trivial, trivial⟩, trivial⟩⟩, ⟨trivial, trivial, trivial⟩⟩⟩
theorem disk_Disk_names_sok : SpecOk Tryd.prog 20 disk_Disk_names_spec := func_sound tabOk (envOk_cons disk_Disk_is_sok (envOk_consr maps_Keys_map_string_disk_file_string_disk_file_sok (envOk_consr slices_Sorted_string_sok envOk_nil))) mixed Tryd.func20 rfl (by decide +kernel) (by decide) (by decide) (by kernel_rfl) disk_Disk_names_pok disk_Disk_names_fok
noncomputable def disk_Disk_Crash_code : Code := match Tryd.f10.body with | some c => c | none => .skip
theorem disk_Disk_Crash_fok : FuncOk tab (envL disk_Disk_Crash_env) disk_Disk_Crash_parts Tryd.f10 disk_Disk_Crash_code disk_Disk_Crash_spec := fun k x => by kernel_rfl
theorem disk_Disk_Crash_pok : PartsOk tab (envL disk_Disk_Crash_env) disk_Disk_Crash_parts 0 disk_Disk_Crash_code := ⟨trivial, trivial, ⟨⟨fun _ => by kernel_rfl, fun k x => by kernel_rfl⟩, ⟨trivial, trivial, ⟨trivial, ⟨trivial, trivial⟩, ⟨trivial, ⟨trivial, trivial, ⟨trivial, trivial, ⟨trivial, trivial, ⟨trivial, ⟨trivial, trivial, ⟨trivial, trivial⟩⟩, ⟨trivial, trivial, trivial⟩⟩⟩⟩⟩, trivial⟩⟩⟩⟩⟩
theorem disk_Disk_Crash_sok : SpecOk Tryd.prog 10 disk_Disk_Crash_spec := func_sound tabOk (envOk_cons disk_Disk_names_sok (envOk_cons slices_Clone_byte_byte_sok envOk_nil)) mixed Tryd.func10 rfl (by decide +kernel) (by decide) (by decide) (by kernel_rfl) disk_Disk_Crash_pok disk_Disk_Crash_fok
noncomputable def disk_Disk_Read_code : Code := match Tryd.f21.body with | some c => c | none => .skip
theorem disk_Disk_Read_fok : FuncOk tab (envL disk_Disk_Read_env) disk_Disk_Read_parts Tryd.f21 disk_Disk_Read_code disk_Disk_Read_spec := fun k x => by kernel_rfl
theorem disk_Disk_Read_pok : PartsOk tab (envL disk_Disk_Read_env) disk_Disk_Read_parts 0 disk_Disk_Read_code := ⟨trivial, trivial, ⟨trivial, trivial, ⟨trivial, ⟨trivial, trivial, ⟨⟨trivial, trivial, trivial⟩, trivial⟩⟩, ⟨trivial, trivial, trivial⟩⟩⟩⟩
theorem disk_Disk_Read_sok : SpecOk Tryd.prog 21 disk_Disk_Read_spec := func_sound tabOk (envOk_cons disk_Disk_find_sok (envOk_cons slices_Clone_byte_byte_sok envOk_nil)) mixed Tryd.func21 rfl (by decide +kernel) (by decide) (by decide) (by kernel_rfl) disk_Disk_Read_pok disk_Disk_Read_fok
noncomputable def frame_size_code : Code := match Tryd.f35.body with | some c => c | none => .skip
theorem frame_size_fok : FuncOk tab (envL frame_size_env) frame_size_parts Tryd.f35 frame_size_code frame_size_spec := fun k x => by kernel_rfl
theorem frame_size_pok : PartsOk tab (envL frame_size_env) frame_size_parts 0 frame_size_code := ⟨trivial, trivial, ⟨trivial, ⟨trivial, trivial, ⟨⟨fun _ => by kernel_rfl, fun k x => by kernel_rfl⟩, ⟨trivial, trivial, ⟨trivial, ⟨trivial, trivial⟩, ⟨trivial, ⟨trivial, trivial, ⟨trivial, ⟨trivial, trivial, ⟨⟨trivial, trivial, trivial⟩, trivial⟩⟩, ⟨trivial, trivial, ⟨trivial, trivial, ⟨⟨trivial, trivial, trivial⟩, trivial⟩⟩⟩⟩⟩, trivial⟩⟩⟩⟩⟩, ⟨trivial, ⟨trivial, trivial, ⟨⟨trivial, trivial, trivial⟩, ⟨trivial, trivial, ⟨⟨trivial, trivial, trivial⟩, trivial⟩⟩⟩⟩, ⟨trivial, trivial, trivial⟩⟩⟩⟩
theorem frame_size_sok : SpecOk Tryd.prog 35 frame_size_spec := func_sound tabOk envOk_nil mixed Tryd.func35 rfl (by decide +kernel) (by decide) (by decide) (by kernel_rfl) frame_size_pok frame_size_fok
noncomputable def crc_Open_code : Code := match Tryd.f36.body with | some c => c | none => .skip
theorem crc_Open_fok : FuncOk tab (envL crc_Open_env) crc_Open_parts Tryd.f36 crc_Open_code crc_Open_spec := fun k x => by kernel_rfl
theorem crc_Open_pok : PartsOk tab (envL crc_Open_env) crc_Open_parts 0 crc_Open_code := ⟨trivial, trivial, ⟨trivial, ⟨trivial, trivial, ⟨⟨trivial, trivial, trivial⟩, trivial⟩⟩, ⟨trivial, trivial, trivial⟩⟩⟩
theorem crc_Open_sok : SpecOk Tryd.prog 36 crc_Open_spec := func_sound tabOk (envOk_cons crc_Seal_sok (envOk_cons slices_Clone_byte_byte_sok envOk_nil)) mixed Tryd.func36 rfl (by decide +kernel) (by decide) (by decide) (by kernel_rfl) crc_Open_pok crc_Open_fok
noncomputable def frame_Next_code : Code := match Tryd.f22.body with | some c => c | none => .skip
theorem frame_Next_fok : FuncOk tab (envL frame_Next_env) frame_Next_parts Tryd.f22 frame_Next_code frame_Next_spec := fun k x => by kernel_rfl
theorem frame_Next_pok : PartsOk tab (envL frame_Next_env) frame_Next_parts 0 frame_Next_code := ⟨trivial, trivial, ⟨trivial, trivial, ⟨trivial, ⟨trivial, trivial, ⟨⟨trivial, trivial, trivial⟩, trivial⟩⟩, ⟨trivial, ⟨trivial, trivial, ⟨⟨trivial, trivial, trivial⟩, trivial⟩⟩, ⟨trivial, trivial, ⟨fun k x => by kernel_rfl, ⟨trivial, trivial, ⟨⟨trivial, trivial, trivial⟩, trivial⟩⟩, ⟨trivial, trivial, trivial⟩⟩⟩⟩⟩⟩⟩
theorem frame_Next_sok : SpecOk Tryd.prog 22 frame_Next_spec := func_sound tabOk (envOk_cons frame_size_sok (envOk_cons crc_Open_sok envOk_nil)) mixed Tryd.func22 rfl (by decide +kernel) (by decide) (by decide) (by kernel_rfl) frame_Next_pok frame_Next_fok
noncomputable def wire_Read_code : Code := match Tryd.f23.body with | some c => c | none => .skip
theorem wire_Read_fok : FuncOk tab (envL wire_Read_env) wire_Read_parts Tryd.f23 wire_Read_code wire_Read_spec := fun k x => by kernel_rfl
theorem wire_Read_pok : PartsOk tab (envL wire_Read_env) wire_Read_parts 0 wire_Read_code := ⟨trivial, trivial, ⟨trivial, trivial, trivial⟩⟩
theorem wire_Read_sok : SpecOk Tryd.prog 23 wire_Read_spec := func_sound tabOk (envOk_cons slices_Clone_byte_byte_sok envOk_nil) mixed Tryd.func23 rfl (by decide +kernel) (by decide) (by decide) (by kernel_rfl) wire_Read_pok wire_Read_fok
noncomputable def wire_Reader_fine_code : Code := match Tryd.f37.body with | some c => c | none => .skip
theorem wire_Reader_fine_fok : FuncOk tab (envL wire_Reader_fine_env) wire_Reader_fine_parts Tryd.f37 wire_Reader_fine_code wire_Reader_fine_spec := fun k x => by kernel_rfl
theorem wire_Reader_fine_pok : PartsOk tab (envL wire_Reader_fine_env) wire_Reader_fine_parts 0 wire_Reader_fine_code := ⟨trivial, trivial, ⟨trivial, trivial, trivial⟩⟩
theorem wire_Reader_fine_sok : SpecOk Tryd.prog 37 wire_Reader_fine_spec := func_sound tabOk envOk_nil mixed Tryd.func37 rfl (by decide +kernel) (by decide) (by decide) (by kernel_rfl) wire_Reader_fine_pok wire_Reader_fine_fok
noncomputable def wire_Reader_peek_code : Code := match Tryd.f38.body with | some c => c | none => .skip
theorem wire_Reader_peek_fok : FuncOk tab (envL wire_Reader_peek_env) wire_Reader_peek_parts Tryd.f38 wire_Reader_peek_code wire_Reader_peek_spec := fun k x => by kernel_rfl
theorem wire_Reader_peek_pok : PartsOk tab (envL wire_Reader_peek_env) wire_Reader_peek_parts 0 wire_Reader_peek_code := ⟨trivial, trivial, ⟨trivial, trivial, ⟨trivial, ⟨trivial, trivial, ⟨⟨fun _ => by kernel_rfl, fun k x => by kernel_rfl⟩, ⟨trivial, trivial, ⟨trivial, ⟨trivial, trivial⟩, ⟨trivial, ⟨trivial, trivial, ⟨trivial, ⟨trivial, trivial, ⟨trivial, trivial⟩⟩, ⟨trivial, trivial, ⟨trivial, trivial, ⟨⟨trivial, trivial, trivial⟩, trivial⟩⟩⟩⟩⟩, trivial⟩⟩⟩⟩⟩, ⟨trivial, trivial, trivial⟩⟩⟩⟩
theorem wire_Reader_peek_sok : SpecOk Tryd.prog 38 wire_Reader_peek_spec := func_sound tabOk envOk_nil mixed Tryd.func38 rfl (by decide +kernel) (by decide) (by decide) (by kernel_rfl) wire_Reader_peek_pok wire_Reader_peek_fok
noncomputable def wire_Reader_fail_code : Code := match Tryd.f39.body with | some c => c | none => .skip
theorem wire_Reader_fail_fok : FuncOk tab (envL wire_Reader_fail_env) wire_Reader_fail_parts Tryd.f39 wire_Reader_fail_code wire_Reader_fail_spec := fun k x => by kernel_rfl
theorem wire_Reader_fail_pok : PartsOk tab (envL wire_Reader_fail_env) wire_Reader_fail_parts 0 wire_Reader_fail_code := ⟨trivial, trivial, ⟨trivial, trivial⟩⟩
theorem wire_Reader_fail_sok : SpecOk Tryd.prog 39 wire_Reader_fail_spec := func_sound tabOk envOk_nil mixed Tryd.func39 rfl (by decide +kernel) (by decide) (by decide) (by kernel_rfl) wire_Reader_fail_pok wire_Reader_fail_fok
noncomputable def wire_Reader_Uvarint_code : Code := match Tryd.f24.body with | some c => c | none => .skip
theorem wire_Reader_Uvarint_fok : FuncOk tab (envL wire_Reader_Uvarint_env) wire_Reader_Uvarint_parts Tryd.f24 wire_Reader_Uvarint_code wire_Reader_Uvarint_spec := fun k x => by kernel_rfl
theorem wire_Reader_Uvarint_pok : PartsOk tab (envL wire_Reader_Uvarint_env) wire_Reader_Uvarint_parts 0 wire_Reader_Uvarint_code := ⟨trivial, trivial, ⟨trivial, ⟨trivial, trivial, ⟨⟨trivial, trivial, trivial⟩, trivial⟩⟩, ⟨trivial, trivial, ⟨trivial, ⟨trivial, trivial, ⟨trivial, trivial⟩⟩, ⟨trivial, trivial, ⟨trivial, trivial, trivial⟩⟩⟩⟩⟩⟩
theorem wire_Reader_Uvarint_sok : SpecOk Tryd.prog 24 wire_Reader_Uvarint_spec := func_sound tabOk (envOk_cons wire_Reader_fine_sok (envOk_cons wire_Reader_peek_sok (envOk_cons wire_Reader_fail_sok envOk_nil))) mixed Tryd.func24 rfl (by decide +kernel) (by decide) (by decide) (by kernel_rfl) wire_Reader_Uvarint_pok wire_Reader_Uvarint_fok
noncomputable def wire_Reader_Err_code : Code := match Tryd.f25.body with | some c => c | none => .skip
theorem wire_Reader_Err_fok : FuncOk tab (envL wire_Reader_Err_env) wire_Reader_Err_parts Tryd.f25 wire_Reader_Err_code wire_Reader_Err_spec := fun k x => by kernel_rfl
theorem wire_Reader_Err_pok : PartsOk tab (envL wire_Reader_Err_env) wire_Reader_Err_parts 0 wire_Reader_Err_code := ⟨trivial, trivial, ⟨trivial, ⟨trivial, trivial, ⟨⟨trivial, trivial, trivial⟩, trivial⟩⟩, ⟨trivial, trivial, trivial⟩⟩⟩
theorem wire_Reader_Err_sok : SpecOk Tryd.prog 25 wire_Reader_Err_spec := func_sound tabOk envOk_nil mixed Tryd.func25 rfl (by decide +kernel) (by decide) (by decide) (by kernel_rfl) wire_Reader_Err_pok wire_Reader_Err_fok
noncomputable def wire_Reader_Left_code : Code := match Tryd.f26.body with | some c => c | none => .skip
theorem wire_Reader_Left_fok : FuncOk tab (envL wire_Reader_Left_env) wire_Reader_Left_parts Tryd.f26 wire_Reader_Left_code wire_Reader_Left_spec := fun k x => by kernel_rfl
theorem wire_Reader_Left_pok : PartsOk tab (envL wire_Reader_Left_env) wire_Reader_Left_parts 0 wire_Reader_Left_code := ⟨trivial, trivial, ⟨trivial, ⟨trivial, trivial, ⟨⟨trivial, trivial, trivial⟩, trivial⟩⟩, ⟨trivial, trivial, trivial⟩⟩⟩
theorem wire_Reader_Left_sok : SpecOk Tryd.prog 26 wire_Reader_Left_spec := func_sound tabOk envOk_nil mixed Tryd.func26 rfl (by decide +kernel) (by decide) (by decide) (by kernel_rfl) wire_Reader_Left_pok wire_Reader_Left_fok
noncomputable def snap_Load_code : Code := match Tryd.f11.body with | some c => c | none => .skip
theorem snap_Load_fok : FuncOk tab (envL snap_Load_env) snap_Load_parts Tryd.f11 snap_Load_code snap_Load_spec := fun k x => by kernel_rfl
theorem snap_Load_pok : PartsOk tab (envL snap_Load_env) snap_Load_parts 0 snap_Load_code := ⟨trivial, trivial, ⟨trivial, trivial, ⟨trivial, ⟨trivial, trivial, ⟨⟨trivial, trivial, trivial⟩, trivial⟩⟩, ⟨trivial, trivial, ⟨fun k x => by kernel_rfl, ⟨trivial, trivial, ⟨⟨trivial, trivial, trivial⟩, trivial⟩⟩, ⟨trivial, trivial, ⟨trivial, trivial, ⟨trivial, trivial, ⟨trivial, ⟨trivial, trivial, ⟨⟨trivial, trivial, trivial⟩, trivial⟩⟩, ⟨trivial, trivial, trivial⟩⟩⟩⟩⟩⟩⟩⟩⟩⟩
theorem snap_Load_sok : SpecOk Tryd.prog 11 snap_Load_spec := func_sound tabOk (envOk_cons snap_name_sok (envOk_cons disk_Disk_Read_sok (envOk_cons frame_Next_sok (envOk_cons wire_Read_sok (envOk_cons wire_Reader_Uvarint_sok (envOk_cons wire_Reader_Err_sok (envOk_cons wire_Reader_Left_sok (envOk_cons slices_Clone_byte_byte_sok envOk_nil)))))))) mixed Tryd.func11 rfl (by decide +kernel) (by decide) (by decide) (by kernel_rfl) snap_Load_pok snap_Load_fok
noncomputable def snap_Count_code : Code := match Tryd.f7.body with | some c => c | none => .skip
theorem snap_Count_fok : FuncOk tab (envL snap_Count_env) snap_Count_parts Tryd.f7 snap_Count_code snap_Count_spec := fun k x => by kernel_rfl
theorem snap_Count_pok : PartsOk tab (envL snap_Count_env) snap_Count_parts 0 snap_Count_code := ⟨trivial, trivial, ⟨trivial, ⟨trivial, trivial, ⟨⟨trivial, trivial, trivial⟩, trivial⟩⟩, ⟨trivial, trivial, trivial⟩⟩⟩
theorem snap_Count_sok : SpecOk Tryd.prog 7 snap_Count_spec := func_sound tabOk envOk_nil mixed Tryd.func7 rfl (by decide +kernel) (by decide) (by decide) (by kernel_rfl) snap_Count_pok snap_Count_fok
noncomputable def law08_awake_code : Code := match Tryd.f4.body with | some c => c | none => .skip
theorem law08_awake_fok : FuncOk tab (envL law08_awake_env) law08_awake_parts Tryd.f4 law08_awake_code law08_awake_spec := fun k x => by kernel_rfl
theorem law08_awake_pok : PartsOk tab (envL law08_awake_env) law08_awake_parts 0 law08_awake_code := ⟨trivial, trivial, ⟨trivial, trivial, ⟨trivial, ⟨trivial, trivial, ⟨⟨trivial, trivial, trivial⟩, trivial⟩⟩, ⟨trivial, trivial, ⟨trivial, trivial, ⟨trivial, trivial, trivial⟩⟩⟩⟩⟩⟩
theorem law08_awake_sok : SpecOk Tryd.prog 4 law08_awake_spec := func_sound tabOk (envOk_cons disk_New_sok (envOk_cons snap_Save_sok (envOk_cons disk_Disk_Crash_sok (envOk_cons snap_Load_sok (envOk_cons snap_Count_sok envOk_nil))))) mixed Tryd.func4 rfl (by decide +kernel) (by decide) (by decide) (by kernel_rfl) law08_awake_pok law08_awake_fok
noncomputable def ref08_Chunks_code : Code := match Tryd.f5.body with | some c => c | none => .skip
theorem ref08_Chunks_fok : FuncOk tab (envL ref08_Chunks_env) ref08_Chunks_parts Tryd.f5 ref08_Chunks_code ref08_Chunks_spec := fun k x => by kernel_rfl
theorem ref08_Chunks_pok : PartsOk tab (envL ref08_Chunks_env) ref08_Chunks_parts 0 ref08_Chunks_code := ⟨trivial, trivial, ⟨trivial, trivial, ⟨trivial, ⟨trivial, trivial, ⟨⟨fun _ => by kernel_rfl, fun k x => by kernel_rfl⟩, ⟨trivial, ⟨trivial, trivial, ⟨trivial, trivial⟩⟩, ⟨trivial, ⟨trivial, trivial, trivial⟩, trivial⟩⟩⟩⟩, ⟨trivial, trivial, trivial⟩⟩⟩⟩
theorem ref08_Chunks_sok : SpecOk Tryd.prog 5 ref08_Chunks_spec := func_sound tabOk envOk_nil mixed Tryd.func5 rfl (by decide +kernel) (by decide) (by decide) (by kernel_rfl) ref08_Chunks_pok ref08_Chunks_fok
noncomputable def snap_Chunk_code : Code := match Tryd.f6.body with | some c => c | none => .skip
theorem snap_Chunk_fok : FuncOk tab (envL snap_Chunk_env) snap_Chunk_parts Tryd.f6 snap_Chunk_code snap_Chunk_spec := fun k x => by kernel_rfl
theorem snap_Chunk_pok : PartsOk tab (envL snap_Chunk_env) snap_Chunk_parts 0 snap_Chunk_code := ⟨trivial, trivial, ⟨trivial, ⟨trivial, trivial, ⟨⟨trivial, trivial, trivial⟩, trivial⟩⟩, ⟨trivial, trivial, trivial⟩⟩⟩
theorem snap_Chunk_sok : SpecOk Tryd.prog 6 snap_Chunk_spec := func_sound tabOk (envOk_cons snap_Count_sok (envOk_cons slices_Clone_byte_byte_sok envOk_nil)) mixed Tryd.func6 rfl (by decide +kernel) (by decide) (by decide) (by kernel_rfl) snap_Chunk_pok snap_Chunk_fok
noncomputable def law08_SnapChunks_code : Code := match Tryd.f3.body with | some c => c | none => .skip
theorem law08_SnapChunks_fok : FuncOk tab (envL law08_SnapChunks_env) law08_SnapChunks_parts Tryd.f3 law08_SnapChunks_code law08_SnapChunks_spec := fun k x => by kernel_rfl
theorem law08_SnapChunks_pok : PartsOk tab (envL law08_SnapChunks_env) law08_SnapChunks_parts 0 law08_SnapChunks_code := ⟨trivial, trivial, ⟨trivial, ⟨trivial, trivial, ⟨⟨trivial, trivial, trivial⟩, trivial⟩⟩, ⟨trivial, trivial, ⟨trivial, trivial, ⟨trivial, ⟨fun k x => by kernel_rfl, trivial, ⟨⟨trivial, trivial, trivial⟩, trivial⟩⟩, ⟨trivial, trivial, ⟨trivial, ⟨trivial, trivial, ⟨⟨trivial, trivial, ⟨trivial, trivial, ⟨trivial, trivial⟩⟩⟩, trivial⟩⟩, ⟨trivial, trivial, trivial⟩⟩⟩⟩⟩⟩⟩⟩
theorem law08_SnapChunks_sok : SpecOk Tryd.prog 3 law08_SnapChunks_spec := func_sound tabOk (envOk_cons law08_awake_sok (envOk_cons ref08_Chunks_sok (envOk_cons snap_Chunk_sok (envOk_cons snap_Count_sok envOk_nil)))) mixed Tryd.func3 rfl (by decide +kernel) (by decide) (by decide) (by kernel_rfl) law08_SnapChunks_pok law08_SnapChunks_fok
end Go.Proofs.YtcbmmkjlppjfoaaDoor.gg
