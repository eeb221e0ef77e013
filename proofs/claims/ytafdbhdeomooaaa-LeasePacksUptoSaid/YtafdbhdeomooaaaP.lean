/- That the code computes so: printed by a program of our own. -/
import Derived.Test.YtafdbhdeomooaaaG
import Derived.Test.YtafdbhdeomooaaaProg
import Derived.KernelRfl
open Go Go.GG Go.Proofs
set_option linter.unusedVariables false
namespace Go.Proofs.Ytafdbhdeomooaaa.gg
set_option maxRecDepth 100000 in
theorem tabOk : TabOk Try.prog tab := (tabOk_cons ⟨by kernel_rfl, by kernel_rfl, rfl, fun h => by cases h⟩ (tabOk_cons ⟨by kernel_rfl, by kernel_rfl, rfl, fun h => by cases h⟩ (tabOk_cons ⟨by kernel_rfl, by kernel_rfl, rfl, fun h => by cases h⟩ (tabOk_cons ⟨by kernel_rfl, by kernel_rfl, rfl, fun h => by cases h⟩ (tabOk_cons ⟨by kernel_rfl, by kernel_rfl, rfl, fun h => by cases h⟩ (tabOk_cons (tOk_eq (by kernel_rfl) (by kernel_rfl) rfl rfl (by kernel_rfl) (by kernel_rfl) (by kernel_rfl)) tabOk_nil))))))
theorem mixed : Try.prog.follows .mixedOrders = true := by kernel_rfl
noncomputable def lease_time_code : Code := match Try.f28.body with | some c => c | none => .skip
theorem lease_time_fok : FuncOk tab (envL lease_time_env) lease_time_parts Try.f28 lease_time_code lease_time_spec := fun k x => by kernel_rfl
theorem lease_time_pok : PartsOk tab (envL lease_time_env) lease_time_parts 0 lease_time_code := ⟨trivial, trivial, ⟨trivial, trivial, trivial⟩⟩
theorem lease_time_sok : SpecOk Try.prog 28 lease_time_spec := func_sound tabOk envOk_nil mixed Try.func28 rfl (by decide +kernel) (by decide) (by decide) (by kernel_rfl) lease_time_pok lease_time_fok
noncomputable def lease_hold_code : Code := match Try.f40.body with | some c => c | none => .skip
theorem lease_hold_fok : FuncOk tab (envL lease_hold_env) lease_hold_parts Try.f40 lease_hold_code lease_hold_spec := fun k x => by kernel_rfl
theorem lease_hold_pok : PartsOk tab (envL lease_hold_env) lease_hold_parts 0 lease_hold_code := ⟨trivial, trivial, ⟨trivial, trivial, trivial⟩⟩
theorem lease_hold_sok : SpecOk Try.prog 40 lease_hold_spec := func_sound tabOk (envOk_cons lease_time_sok envOk_nil) mixed Try.func40 rfl (by decide +kernel) (by decide) (by decide) (by kernel_rfl) lease_hold_pok lease_hold_fok
noncomputable def lease_Check_code : Code := match Try.f25.body with | some c => c | none => .skip
theorem lease_Check_fok : FuncOk tab (envL lease_Check_env) lease_Check_parts Try.f25 lease_Check_code lease_Check_spec := fun k x => by kernel_rfl
theorem lease_Check_pok : PartsOk tab (envL lease_Check_env) lease_Check_parts 0 lease_Check_code := ⟨trivial, trivial, ⟨trivial, ⟨trivial, trivial, ⟨⟨fun _ => by kernel_rfl, fun k x => by kernel_rfl⟩, ⟨trivial, trivial, ⟨trivial, ⟨trivial, trivial⟩, ⟨trivial, ⟨trivial, trivial, ⟨trivial, trivial, ⟨⟨trivial, trivial, trivial⟩, trivial⟩⟩⟩, trivial⟩⟩⟩⟩⟩, ⟨trivial, ⟨trivial, trivial, ⟨⟨trivial, trivial, trivial⟩, trivial⟩⟩, ⟨trivial, trivial, trivial⟩⟩⟩⟩
theorem lease_Check_sok : SpecOk Try.prog 25 lease_Check_spec := func_sound tabOk (envOk_cons lease_hold_sok envOk_nil) mixed Try.func25 rfl (by decide +kernel) (by decide) (by decide) (by kernel_rfl) lease_Check_pok lease_Check_fok
noncomputable def slices_Clone_api_Hold_api_Hold_nil_code : Code := match Try.f43.body with | some c => c | none => .skip
theorem slices_Clone_api_Hold_api_Hold_nil_fok : FuncOk tab (envL slices_Clone_api_Hold_api_Hold_nil_env) slices_Clone_api_Hold_api_Hold_nil_parts Try.f43 slices_Clone_api_Hold_api_Hold_nil_code slices_Clone_api_Hold_api_Hold_nil_spec := fun k x => by kernel_rfl
theorem slices_Clone_api_Hold_api_Hold_nil_pok : PartsOk tab (envL slices_Clone_api_Hold_api_Hold_nil_env) slices_Clone_api_Hold_api_Hold_nil_parts 0 slices_Clone_api_Hold_api_Hold_nil_code := ⟨trivial, trivial, ⟨trivial, ⟨trivial, trivial, ⟨⟨trivial, trivial, trivial⟩, trivial⟩⟩, ⟨trivial, trivial, trivial⟩⟩⟩
theorem slices_Clone_api_Hold_api_Hold_nil_sok : SpecOk Try.prog 43 slices_Clone_api_Hold_api_Hold_nil_spec := func_sound tabOk envOk_nil mixed Try.func43 rfl (by decide +kernel) (by decide) (by decide) (by kernel_rfl) slices_Clone_api_Hold_api_Hold_nil_pok slices_Clone_api_Hold_api_Hold_nil_fok
noncomputable def slices_Clone_api_Hold_api_Hold_code : Code := match Try.f43.body with | some c => c | none => .skip
theorem slices_Clone_api_Hold_api_Hold_fok : FuncOk tab (envL slices_Clone_api_Hold_api_Hold_env) slices_Clone_api_Hold_api_Hold_parts Try.f43 slices_Clone_api_Hold_api_Hold_code slices_Clone_api_Hold_api_Hold_sspec := fun k x => by kernel_rfl
theorem slices_Clone_api_Hold_api_Hold_pok : PartsOk tab (envL slices_Clone_api_Hold_api_Hold_env) slices_Clone_api_Hold_api_Hold_parts 0 slices_Clone_api_Hold_api_Hold_code := ⟨trivial, trivial, ⟨trivial, ⟨trivial, trivial, ⟨⟨trivial, trivial, trivial⟩, trivial⟩⟩, ⟨trivial, trivial, trivial⟩⟩⟩
theorem slices_Clone_api_Hold_api_Hold_ssok : SpecOk Try.prog 43 slices_Clone_api_Hold_api_Hold_sspec := func_sound tabOk envOk_nil mixed Try.func43 rfl (by decide +kernel) (by decide) (by decide) (by kernel_rfl) slices_Clone_api_Hold_api_Hold_pok slices_Clone_api_Hold_api_Hold_fok
theorem slices_Clone_api_Hold_api_Hold_sok : SpecOk Try.prog 43 slices_Clone_api_Hold_api_Hold_spec := spec_nil0 slices_Clone_api_Hold_api_Hold_nil_sok slices_Clone_api_Hold_api_Hold_ssok (fun _ _ _ => rfl) (fun _ _ => by kernel_rfl)
noncomputable def lease_turned_code : Code := match Try.f30.body with | some c => c | none => .skip
theorem lease_turned_fok : FuncOk tab (envL lease_turned_env) lease_turned_parts Try.f30 lease_turned_code lease_turned_spec := fun k x => by kernel_rfl
theorem lease_turned_pok : PartsOk tab (envL lease_turned_env) lease_turned_parts 0 lease_turned_code := ⟨trivial, trivial, ⟨trivial, ⟨trivial, trivial, ⟨⟨trivial, trivial, trivial⟩, trivial⟩⟩, ⟨trivial, trivial, ⟨trivial, ⟨trivial, trivial, ⟨⟨fun _ => by kernel_rfl, fun k x => by kernel_rfl⟩, ⟨trivial, trivial, ⟨trivial, ⟨trivial, trivial⟩, ⟨trivial, ⟨trivial, trivial, trivial⟩, trivial⟩⟩⟩⟩⟩, ⟨trivial, trivial, trivial⟩⟩⟩⟩⟩
theorem lease_turned_sok : SpecOk Try.prog 30 lease_turned_spec := func_sound tabOk (envOk_cons lease_Check_sok (envOk_cons lease_time_sok (envOk_cons slices_Clone_api_Hold_api_Hold_sok envOk_nil))) mixed Try.func30 rfl (by decide +kernel) (by decide) (by decide) (by kernel_rfl) lease_turned_pok lease_turned_fok
noncomputable def lease_Pack_1_code : Code := match Try.f31.body with | some c => c | none => .skip
theorem lease_Pack_1_fok : FuncOk tab (envL lease_Pack_1_env) lease_Pack_1_parts Try.f31 lease_Pack_1_code lease_Pack_1_spec := fun k x => by kernel_rfl
theorem lease_Pack_1_pok : PartsOk tab (envL lease_Pack_1_env) lease_Pack_1_parts 0 lease_Pack_1_code := ⟨trivial, trivial, ⟨trivial, trivial, trivial⟩⟩
theorem lease_Pack_1_sok : SpecOk Try.prog 31 lease_Pack_1_spec := func_sound tabOk envOk_nil mixed Try.func31 rfl (by decide +kernel) (by decide) (by decide) (by kernel_rfl) lease_Pack_1_pok lease_Pack_1_fok
noncomputable def lease_Pack_code : Code := match Try.f12.body with | some c => c | none => .skip
theorem lease_Pack_fok : FuncOk tab (envL lease_Pack_env) lease_Pack_parts Try.f12 lease_Pack_code lease_Pack_spec := fun k x => by kernel_rfl
theorem lease_Pack_pok : PartsOk tab (envL lease_Pack_env) lease_Pack_parts 0 lease_Pack_code := ⟨trivial, trivial, ⟨trivial, trivial, trivial⟩⟩
theorem lease_Pack_sok : SpecOk Try.prog 12 lease_Pack_spec := func_sound tabOk (envOk_cons lease_turned_sok (envOk_cons lease_Pack_1_sok envOk_nil)) mixed Try.func12 rfl (by decide +kernel) (by decide) (by decide) (by kernel_rfl) lease_Pack_pok lease_Pack_fok
noncomputable def ref17_Hold_code : Code := match Try.f29.body with | some c => c | none => .skip
theorem ref17_Hold_fok : FuncOk tab (envL ref17_Hold_env) ref17_Hold_parts Try.f29 ref17_Hold_code ref17_Hold_spec := fun k x => by kernel_rfl
theorem ref17_Hold_pok : PartsOk tab (envL ref17_Hold_env) ref17_Hold_parts 0 ref17_Hold_code := ⟨trivial, trivial, ⟨trivial, trivial, trivial⟩⟩
theorem ref17_Hold_sok : SpecOk Try.prog 29 ref17_Hold_spec := func_sound tabOk envOk_nil mixed Try.func29 rfl (by decide +kernel) (by decide) (by decide) (by kernel_rfl) ref17_Hold_pok ref17_Hold_fok
noncomputable def ref17_May_code : Code := match Try.f9.body with | some c => c | none => .skip
theorem ref17_May_fok : FuncOk tab (envL ref17_May_env) ref17_May_parts Try.f9 ref17_May_code ref17_May_spec := fun k x => by kernel_rfl
theorem ref17_May_pok : PartsOk tab (envL ref17_May_env) ref17_May_parts 0 ref17_May_code := ⟨trivial, trivial, ⟨trivial, ⟨trivial, trivial, ⟨⟨trivial, trivial, trivial⟩, trivial⟩⟩, ⟨trivial, ⟨trivial, trivial, ⟨⟨fun _ => by kernel_rfl, fun k x => by kernel_rfl⟩, ⟨trivial, ⟨trivial, trivial, ⟨trivial, trivial⟩⟩, ⟨trivial, ⟨trivial, trivial, ⟨⟨trivial, trivial, trivial⟩, trivial⟩⟩, trivial⟩⟩⟩⟩, ⟨trivial, trivial, trivial⟩⟩⟩⟩
theorem ref17_May_sok : SpecOk Try.prog 9 ref17_May_spec := func_sound tabOk (envOk_cons ref17_Hold_sok envOk_nil) mixed Try.func9 rfl (by decide +kernel) (by decide) (by decide) (by kernel_rfl) ref17_May_pok ref17_May_fok
noncomputable def lease_Until_code : Code := match Try.f7.body with | some c => c | none => .skip
theorem lease_Until_fok : FuncOk tab (envL lease_Until_env) lease_Until_parts Try.f7 lease_Until_code lease_Until_spec := fun k x => by kernel_rfl
theorem lease_Until_pok : PartsOk tab (envL lease_Until_env) lease_Until_parts 0 lease_Until_code := ⟨trivial, trivial, ⟨trivial, ⟨trivial, trivial, ⟨⟨trivial, trivial, trivial⟩, trivial⟩⟩, ⟨trivial, trivial, trivial⟩⟩⟩
theorem lease_Until_sok : SpecOk Try.prog 7 lease_Until_spec := func_sound tabOk (envOk_cons lease_time_sok envOk_nil) mixed Try.func7 rfl (by decide +kernel) (by decide) (by decide) (by kernel_rfl) lease_Until_pok lease_Until_fok
noncomputable def lease_Due_code : Code := match Try.f8.body with | some c => c | none => .skip
theorem lease_Due_fok : FuncOk tab (envL lease_Due_env) lease_Due_parts Try.f8 lease_Due_code lease_Due_spec := fun k x => by kernel_rfl
theorem lease_Due_pok : PartsOk tab (envL lease_Due_env) lease_Due_parts 0 lease_Due_code := ⟨trivial, trivial, ⟨trivial, ⟨trivial, trivial, ⟨⟨trivial, trivial, trivial⟩, trivial⟩⟩, ⟨trivial, ⟨trivial, trivial, ⟨⟨fun _ => by kernel_rfl, fun k x => by kernel_rfl⟩, ⟨trivial, trivial, ⟨trivial, ⟨trivial, trivial⟩, ⟨trivial, ⟨trivial, trivial, ⟨trivial, trivial, ⟨trivial, trivial⟩⟩⟩, trivial⟩⟩⟩⟩⟩, ⟨trivial, trivial, trivial⟩⟩⟩⟩
theorem lease_Due_sok : SpecOk Try.prog 8 lease_Due_spec := func_sound tabOk (envOk_cons lease_Check_sok (envOk_cons lease_time_sok envOk_nil)) mixed Try.func8 rfl (by decide +kernel) (by decide) (by decide) (by kernel_rfl) lease_Due_pok lease_Due_fok
noncomputable def law17_awake_code : Code := match Try.f10.body with | some c => c | none => .skip
theorem law17_awake_fok : FuncOk tab (envL law17_awake_env) law17_awake_parts Try.f10 law17_awake_code law17_awake_spec := fun k x => by kernel_rfl
theorem law17_awake_pok : PartsOk tab (envL law17_awake_env) law17_awake_parts 0 law17_awake_code := ⟨trivial, trivial, ⟨trivial, trivial, ⟨trivial, trivial, ⟨trivial, trivial, trivial⟩⟩⟩⟩
theorem law17_awake_sok : SpecOk Try.prog 10 law17_awake_spec := func_sound tabOk (envOk_cons lease_Until_sok (envOk_cons lease_Due_sok envOk_nil)) mixed Try.func10 rfl (by decide +kernel) (by decide) (by decide) (by kernel_rfl) law17_awake_pok law17_awake_fok
noncomputable def lease_Unpack_1_code : Code := match Try.f32.body with | some c => c | none => .skip
theorem lease_Unpack_1_fok : FuncOk tab (envL lease_Unpack_1_env) lease_Unpack_1_parts Try.f32 lease_Unpack_1_code lease_Unpack_1_spec := fun k x => by kernel_rfl
theorem lease_Unpack_1_pok : PartsOk tab (envL lease_Unpack_1_env) lease_Unpack_1_parts 0 lease_Unpack_1_code := ⟨trivial, trivial, ⟨trivial, trivial, trivial⟩⟩
theorem lease_Unpack_1_sok : SpecOk Try.prog 32 lease_Unpack_1_spec := func_sound tabOk envOk_nil mixed Try.func32 rfl (by decide +kernel) (by decide) (by decide) (by kernel_rfl) lease_Unpack_1_pok lease_Unpack_1_fok
noncomputable def lease_Unpack_code : Code := match Try.f13.body with | some c => c | none => .skip
theorem lease_Unpack_fok : FuncOk tab (envL lease_Unpack_env) lease_Unpack_parts Try.f13 lease_Unpack_code lease_Unpack_spec := fun k x => by kernel_rfl
theorem lease_Unpack_pok : PartsOk tab (envL lease_Unpack_env) lease_Unpack_parts 0 lease_Unpack_code := ⟨trivial, trivial, ⟨trivial, trivial, trivial⟩⟩
theorem lease_Unpack_sok : SpecOk Try.prog 13 lease_Unpack_spec := func_sound tabOk (envOk_cons lease_turned_sok (envOk_cons lease_Unpack_1_sok envOk_nil)) mixed Try.func13 rfl (by decide +kernel) (by decide) (by decide) (by kernel_rfl) lease_Unpack_pok lease_Unpack_fok
noncomputable def law17_LeasePacks_code : Code := match Try.f4.body with | some c => c | none => .skip
theorem law17_LeasePacks_fok : FuncOk tab (envL law17_LeasePacks_env) law17_LeasePacks_parts Try.f4 law17_LeasePacks_code law17_LeasePacks_spec := fun k x => by kernel_rfl
theorem law17_LeasePacks_pok : PartsOk tab (envL law17_LeasePacks_env) law17_LeasePacks_parts 0 law17_LeasePacks_code := ⟨trivial, trivial, ⟨trivial, trivial, ⟨trivial, ⟨trivial, trivial, ⟨⟨trivial, trivial, trivial⟩, trivial⟩⟩, ⟨trivial, ⟨trivial, trivial, ⟨⟨trivial, trivial, trivial⟩, trivial⟩⟩, ⟨trivial, trivial, ⟨trivial, ⟨trivial, trivial, ⟨⟨trivial, trivial, trivial⟩, trivial⟩⟩, ⟨trivial, ⟨trivial, trivial, ⟨⟨trivial, trivial, trivial⟩, trivial⟩⟩, ⟨trivial, ⟨trivial, trivial, ⟨⟨fun _ => by kernel_rfl, fun k x => by kernel_rfl⟩, ⟨trivial, ⟨trivial, trivial, ⟨trivial, trivial⟩⟩, ⟨trivial, ⟨trivial, trivial, ⟨fun k x => by kernel_rfl, ⟨trivial, trivial, ⟨trivial, trivial⟩⟩, ⟨trivial, trivial, ⟨trivial, ⟨trivial, trivial, ⟨trivial, trivial⟩⟩, ⟨trivial, trivial, ⟨⟨trivial, trivial, trivial⟩, trivial⟩⟩⟩⟩⟩⟩, trivial⟩⟩⟩⟩, ⟨trivial, trivial, trivial⟩⟩⟩⟩⟩⟩⟩⟩⟩
theorem law17_LeasePacks_sok : SpecOk Try.prog 4 law17_LeasePacks_spec := func_sound tabOk (envOk_cons lease_Pack_sok (envOk_cons ref17_May_sok (envOk_cons law17_awake_sok (envOk_cons lease_Unpack_sok envOk_nil)))) mixed Try.func4 rfl (by decide +kernel) (by decide) (by decide) (by kernel_rfl) law17_LeasePacks_pok law17_LeasePacks_fok
end Go.Proofs.Ytafdbhdeomooaaa.gg
