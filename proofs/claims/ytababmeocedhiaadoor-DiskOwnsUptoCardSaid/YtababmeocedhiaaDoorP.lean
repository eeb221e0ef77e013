/- That the code computes so: printed by a program of our own. -/
import Derived.Test.YtababmeocedhiaaDoorM
import Derived.Test.YtababmeocedhiaaDoorProg
import Derived.KernelRfl
import Derived.Test.YtababmeocedhiaaDoorLays
open Go Go.GG Go.Proofs
set_option linter.unusedVariables false
namespace Go.Proofs.YtababmeocedhiaaDoor.gg
set_option maxRecDepth 100000
set_option maxRecDepth 100000 in
theorem tabOk : TabOk Tryd.prog tab := (tabOk_cons ⟨by kernel_rfl, by kernel_rfl, rfl, by kernel_rfl, fun h => by cases h⟩ (tabOk_cons ⟨by kernel_rfl, by kernel_rfl, rfl, by kernel_rfl, fun h => by cases h⟩ (tabOk_cons ⟨by kernel_rfl, by kernel_rfl, rfl, by kernel_rfl, fun h => by cases h⟩ (tabOk_cons ⟨by kernel_rfl, by kernel_rfl, rfl, by kernel_rfl, fun h => by cases h⟩ (tabOk_cons ⟨by kernel_rfl, by kernel_rfl, rfl, by kernel_rfl, fun h => by cases h⟩ (tabOk_cons ⟨by kernel_rfl, by kernel_rfl, rfl, by kernel_rfl, fun h => by cases h⟩ (tabOk_cons ⟨by kernel_rfl, by kernel_rfl, rfl, by kernel_rfl, fun h => by cases h⟩ (tabOk_cons ⟨by kernel_rfl, by kernel_rfl, rfl, by kernel_rfl, fun h => by cases h⟩ (tabOk_cons ⟨by kernel_rfl, by kernel_rfl, rfl, by kernel_rfl, fun h => by cases h⟩ (tabOk_cons ⟨by kernel_rfl, by kernel_rfl, rfl, by kernel_rfl, fun h => by cases h⟩ (tabOk_cons ⟨by kernel_rfl, by kernel_rfl, rfl, by kernel_rfl, fun h => by cases h⟩ (tabOk_cons ⟨by kernel_rfl, by kernel_rfl, rfl, by kernel_rfl, fun h => by cases h⟩ tabOk_nil))))))))))))
theorem mixed : Tryd.prog.follows .mixedOrders = true := by kernel_rfl
noncomputable def disk_Disk_is_code : Code := match Tryd.f23.body with | some c => c | none => .skip
theorem disk_Disk_is_fok : FuncOk tab (envL disk_Disk_is_env) disk_Disk_is_parts Tryd.f23 disk_Disk_is_code disk_Disk_is_spec := fun k x => by kernel_rfl
theorem disk_Disk_is_pok : PartsOk tab (envL disk_Disk_is_env) disk_Disk_is_parts 0 disk_Disk_is_code := ⟨trivial, trivial, ⟨trivial, trivial, trivial⟩⟩
theorem disk_Disk_is_sok : SpecOk Tryd.prog 23 disk_Disk_is_spec := func_sound tabOk envOk_nil mixed Tryd.func23 rfl (by decide +kernel) (by decide) (by decide) (by kernel_rfl) disk_Disk_is_pok disk_Disk_is_fok
noncomputable def disk_Disk_find_code : Code := match Tryd.f25.body with | some c => c | none => .skip
theorem disk_Disk_find_fok : FuncOk tab (envL disk_Disk_find_env) disk_Disk_find_parts Tryd.f25 disk_Disk_find_code disk_Disk_find_spec := fun k x => by kernel_rfl
theorem disk_Disk_find_pok : PartsOk tab (envL disk_Disk_find_env) disk_Disk_find_parts 0 disk_Disk_find_code := ⟨trivial, trivial, ⟨trivial, ⟨trivial, trivial, ⟨⟨trivial, trivial, trivial⟩, trivial⟩⟩, ⟨trivial, trivial, ⟨trivial, ⟨trivial, trivial, ⟨⟨trivial, trivial, trivial⟩, trivial⟩⟩, ⟨trivial, trivial, trivial⟩⟩⟩⟩⟩
theorem disk_Disk_find_sok : SpecOk Tryd.prog 25 disk_Disk_find_spec := func_sound tabOk (envOk_cons disk_Disk_is_sok envOk_nil) mixed Tryd.func25 rfl (by decide +kernel) (by decide) (by decide) (by kernel_rfl) disk_Disk_find_pok disk_Disk_find_fok
noncomputable def slices_Clone_byte_byte_nil_code : Code := match Tryd.f26.body with | some c => c | none => .skip
theorem slices_Clone_byte_byte_nil_fok : FuncOk tab (envL slices_Clone_byte_byte_nil_env) slices_Clone_byte_byte_nil_parts Tryd.f26 slices_Clone_byte_byte_nil_code slices_Clone_byte_byte_nil_spec := fun k x => by kernel_rfl
theorem slices_Clone_byte_byte_nil_pok : PartsOk tab (envL slices_Clone_byte_byte_nil_env) slices_Clone_byte_byte_nil_parts 0 slices_Clone_byte_byte_nil_code := ⟨trivial, trivial, ⟨trivial, ⟨trivial, trivial, ⟨⟨trivial, trivial, trivial⟩, trivial⟩⟩, ⟨trivial, trivial, trivial⟩⟩⟩
theorem slices_Clone_byte_byte_nil_sok : SpecOk Tryd.prog 26 slices_Clone_byte_byte_nil_spec := func_sound tabOk envOk_nil mixed Tryd.func26 rfl (by decide +kernel) (by decide) (by decide) (by kernel_rfl) slices_Clone_byte_byte_nil_pok slices_Clone_byte_byte_nil_fok
noncomputable def slices_Clone_byte_byte_code : Code := match Tryd.f26.body with | some c => c | none => .skip
theorem slices_Clone_byte_byte_fok : FuncOk tab (envL slices_Clone_byte_byte_env) slices_Clone_byte_byte_parts Tryd.f26 slices_Clone_byte_byte_code slices_Clone_byte_byte_sspec := fun k x => by kernel_rfl
theorem slices_Clone_byte_byte_pok : PartsOk tab (envL slices_Clone_byte_byte_env) slices_Clone_byte_byte_parts 0 slices_Clone_byte_byte_code := ⟨trivial, trivial, ⟨trivial, ⟨trivial, trivial, ⟨⟨trivial, trivial, trivial⟩, trivial⟩⟩, ⟨trivial, trivial, trivial⟩⟩⟩
theorem slices_Clone_byte_byte_ssok : SpecOk Tryd.prog 26 slices_Clone_byte_byte_sspec := func_sound tabOk envOk_nil mixed Tryd.func26 rfl (by decide +kernel) (by decide) (by decide) (by kernel_rfl) slices_Clone_byte_byte_pok slices_Clone_byte_byte_fok
theorem slices_Clone_byte_byte_sok : SpecOk Tryd.prog 26 slices_Clone_byte_byte_spec := spec_nil0 slices_Clone_byte_byte_nil_sok slices_Clone_byte_byte_ssok (fun _ _ _ => rfl) (fun _ _ => by kernel_rfl)
noncomputable def disk_Disk_Read_code : Code := match Tryd.f10.body with | some c => c | none => .skip
theorem disk_Disk_Read_fok : FuncOk tab (envL disk_Disk_Read_env) disk_Disk_Read_parts Tryd.f10 disk_Disk_Read_code disk_Disk_Read_spec := fun k x => by kernel_rfl
theorem disk_Disk_Read_pok : PartsOk tab (envL disk_Disk_Read_env) disk_Disk_Read_parts 0 disk_Disk_Read_code := ⟨trivial, trivial, ⟨trivial, trivial, ⟨trivial, ⟨trivial, trivial, ⟨⟨trivial, trivial, trivial⟩, trivial⟩⟩, ⟨trivial, trivial, trivial⟩⟩⟩⟩
theorem disk_Disk_Read_sok : SpecOk Tryd.prog 10 disk_Disk_Read_spec := func_sound tabOk (envOk_cons disk_Disk_find_sok (envOk_cons slices_Clone_byte_byte_sok envOk_nil)) mixed Tryd.func10 rfl (by decide +kernel) (by decide) (by decide) (by kernel_rfl) disk_Disk_Read_pok disk_Disk_Read_fok
noncomputable def disk_New_code : Code := match Tryd.f7.body with | some c => c | none => .skip
theorem disk_New_fok : FuncOk tab (envL disk_New_env) disk_New_parts Tryd.f7 disk_New_code disk_New_spec := fun k x => by kernel_rfl
theorem disk_New_pok : PartsOk tab (envL disk_New_env) disk_New_parts 0 disk_New_code := ⟨trivial, trivial, ⟨trivial, trivial, trivial⟩⟩
theorem disk_New_sok : SpecOk Tryd.prog 7 disk_New_spec := func_sound tabOk envOk_nil mixed Tryd.func7 rfl (by decide +kernel) (by decide) (by decide) (by kernel_rfl) disk_New_pok disk_New_fok
theorem strings_Trim_sok : SpecOk Tryd.prog 36 strings_Trim_spec := trim_ok Tryd.laysTrim (by kernel_rfl) (⟨_, Tryd.func36, by decide +kernel, by kernel_rfl⟩)
noncomputable def disk_may_code : Code := match Tryd.f24.body with | some c => c | none => .skip
theorem disk_may_fok : FuncOk tab (envL disk_may_env) disk_may_parts Tryd.f24 disk_may_code disk_may_spec := fun k x => by kernel_rfl
theorem disk_may_pok : PartsOk tab (envL disk_may_env) disk_may_parts 0 disk_may_code := ⟨trivial, trivial, ⟨trivial, trivial, trivial⟩⟩
theorem disk_may_sok : SpecOk Tryd.prog 24 disk_may_spec := func_sound tabOk (envOk_cons strings_Trim_sok envOk_nil) mixed Tryd.func24 rfl (by decide +kernel) (by decide) (by decide) (by kernel_rfl) disk_may_pok disk_may_fok
noncomputable def disk_Disk_Append_code : Code := match Tryd.f8.body with | some c => c | none => .skip
theorem disk_Disk_Append_fok : FuncOk tab (envL disk_Disk_Append_env) disk_Disk_Append_parts Tryd.f8 disk_Disk_Append_code disk_Disk_Append_spec := fun k x => by kernel_rfl
theorem disk_Disk_Append_pok : PartsOk tab (envL disk_Disk_Append_env) disk_Disk_Append_parts 0 disk_Disk_Append_code := ⟨trivial, trivial, ⟨trivial, ⟨trivial, trivial, ⟨⟨trivial, trivial, trivial⟩, trivial⟩⟩, ⟨trivial, trivial, ⟨trivial, ⟨trivial, trivial, ⟨trivial, trivial⟩⟩, ⟨trivial, ⟨trivial, trivial, ⟨⟨trivial, trivial, trivial⟩, trivial⟩⟩, ⟨trivial, trivial, ⟨trivial, trivial, ⟨trivial, trivial, trivial⟩⟩⟩⟩⟩⟩⟩⟩
theorem disk_Disk_Append_sok : SpecOk Tryd.prog 8 disk_Disk_Append_spec := func_sound tabOk (envOk_cons disk_Disk_is_sok (envOk_cons disk_may_sok envOk_nil)) mixed Tryd.func8 rfl (by decide +kernel) (by decide) (by decide) (by kernel_rfl) disk_Disk_Append_pok disk_Disk_Append_fok
noncomputable def disk_Disk_Sync_code : Code := match Tryd.f15.body with | some c => c | none => .skip
theorem disk_Disk_Sync_fok : FuncOk tab (envL disk_Disk_Sync_env) disk_Disk_Sync_parts Tryd.f15 disk_Disk_Sync_code disk_Disk_Sync_spec := fun k x => by kernel_rfl
theorem disk_Disk_Sync_pok : PartsOk tab (envL disk_Disk_Sync_env) disk_Disk_Sync_parts 0 disk_Disk_Sync_code := ⟨trivial, trivial, ⟨trivial, trivial, ⟨trivial, ⟨trivial, trivial, ⟨trivial, trivial⟩⟩, ⟨trivial, trivial, trivial⟩⟩⟩⟩
theorem disk_Disk_Sync_sok : SpecOk Tryd.prog 15 disk_Disk_Sync_spec := func_sound tabOk (envOk_cons disk_Disk_find_sok envOk_nil) mixed Tryd.func15 rfl (by decide +kernel) (by decide) (by decide) (by kernel_rfl) disk_Disk_Sync_pok disk_Disk_Sync_fok
theorem maps_Keys_map_string_disk_file_string_disk_file_sok : RowOk Tryd.prog 38 maps_Keys_map_string_disk_file_string_disk_file_spec := keys_ok Tryd.laysKeys (⟨_, Tryd.func38, by decide +kernel, by kernel_rfl⟩)
theorem slices_Sorted_string_sok : RowOk Tryd.prog 37 slices_Sorted_string_spec := seq_ok Tryd.laysKeys Tryd.laysSorted Tryd.laysSort rfl (by kernel_rfl) (enters_of Tryd.func49 (by kernel_rfl) rfl) (enters_of Tryd.func50 (by kernel_rfl) rfl) (⟨_, Tryd.func37, by decide +kernel, by kernel_rfl⟩)
noncomputable def disk_Disk_names_code : Code := match Tryd.f27.body with | some c => c | none => .skip
theorem disk_Disk_names_fok : FuncOk tab (envL disk_Disk_names_env) disk_Disk_names_parts Tryd.f27 disk_Disk_names_code disk_Disk_names_spec := fun k x => by kernel_rfl
theorem disk_Disk_names_pok : PartsOk tab (envL disk_Disk_names_env) disk_Disk_names_parts 0 disk_Disk_names_code := ⟨trivial, trivial, ⟨trivial, ⟨trivial, trivial, ⟨⟨trivial, trivial, trivial⟩, trivial⟩⟩, ⟨trivial, trivial, trivial⟩⟩⟩
theorem disk_Disk_names_sok : SpecOk Tryd.prog 27 disk_Disk_names_spec := func_sound tabOk (envOk_cons disk_Disk_is_sok (envOk_consr maps_Keys_map_string_disk_file_string_disk_file_sok (envOk_consr slices_Sorted_string_sok envOk_nil))) mixed Tryd.func27 rfl (by decide +kernel) (by decide) (by decide) (by kernel_rfl) disk_Disk_names_pok disk_Disk_names_fok
noncomputable def disk_Disk_Crash_code : Code := match Tryd.f14.body with | some c => c | none => .skip
theorem disk_Disk_Crash_fok : FuncOk tab (envL disk_Disk_Crash_env) disk_Disk_Crash_parts Tryd.f14 disk_Disk_Crash_code disk_Disk_Crash_spec := fun k x => by kernel_rfl
theorem disk_Disk_Crash_pok : PartsOk tab (envL disk_Disk_Crash_env) disk_Disk_Crash_parts 0 disk_Disk_Crash_code := ⟨trivial, trivial, ⟨⟨fun _ => by kernel_rfl, fun k x => by kernel_rfl⟩, ⟨trivial, trivial, ⟨trivial, ⟨trivial, trivial⟩, ⟨trivial, ⟨trivial, trivial, ⟨trivial, trivial, ⟨trivial, trivial, ⟨trivial, ⟨trivial, trivial, ⟨trivial, trivial⟩⟩, ⟨trivial, trivial, trivial⟩⟩⟩⟩⟩, trivial⟩⟩⟩⟩⟩
theorem disk_Disk_Crash_sok : SpecOk Tryd.prog 14 disk_Disk_Crash_spec := func_sound tabOk (envOk_cons disk_Disk_names_sok (envOk_cons slices_Clone_byte_byte_sok envOk_nil)) mixed Tryd.func14 rfl (by decide +kernel) (by decide) (by decide) (by kernel_rfl) disk_Disk_Crash_pok disk_Disk_Crash_fok
noncomputable def law05_awake_code : Code := match Tryd.f9.body with | some c => c | none => .skip
theorem law05_awake_fok : FuncOk tab (envL law05_awake_env) law05_awake_parts Tryd.f9 law05_awake_code law05_awake_spec := fun k x => by kernel_rfl
theorem law05_awake_pok : PartsOk tab (envL law05_awake_env) law05_awake_parts 0 law05_awake_code := ⟨trivial, trivial, ⟨trivial, trivial, ⟨trivial, ⟨trivial, trivial, ⟨⟨trivial, trivial, trivial⟩, trivial⟩⟩, ⟨trivial, trivial, ⟨trivial, trivial, ⟨trivial, trivial, ⟨trivial, trivial, ⟨trivial, trivial, trivial⟩⟩⟩⟩⟩⟩⟩⟩
theorem law05_awake_sok : SpecOk Tryd.prog 9 law05_awake_spec := func_sound tabOk (envOk_cons disk_New_sok (envOk_cons disk_Disk_Append_sok (envOk_cons disk_Disk_Sync_sok (envOk_cons disk_Disk_Crash_sok (envOk_cons disk_Disk_Read_sok envOk_nil))))) mixed Tryd.func9 rfl (by decide +kernel) (by decide) (by decide) (by kernel_rfl) law05_awake_pok law05_awake_fok
end Go.Proofs.YtababmeocedhiaaDoor.gg
