/- That the code computes so: printed by a program of our own. -/
import Derived.Test.YtlgfmkccnljhoaaM
import Derived.Test.YtlgfmkccnljhoaaProg
import Derived.KernelRfl
open Go Go.GG Go.Proofs
set_option linter.unusedVariables false
namespace Go.Proofs.Ytlgfmkccnljhoaa.gg
set_option maxRecDepth 100000 in
theorem tabOk : TabOk Try.prog tab := (tabOk_cons ⟨by kernel_rfl, by kernel_rfl, rfl, fun h => by cases h⟩ (tabOk_cons ⟨by kernel_rfl, by kernel_rfl, rfl, fun h => by cases h⟩ (tabOk_cons ⟨by kernel_rfl, by kernel_rfl, rfl, fun h => by cases h⟩ (tabOk_cons (tOk_eq (by kernel_rfl) (by kernel_rfl) rfl rfl (by kernel_rfl) (by kernel_rfl) (by kernel_rfl)) (tabOk_cons ⟨by kernel_rfl, by kernel_rfl, rfl, fun h => by cases h⟩ (tabOk_cons ⟨by kernel_rfl, by kernel_rfl, rfl, fun h => by cases h⟩ (tabOk_cons ⟨by kernel_rfl, by kernel_rfl, rfl, fun h => by cases h⟩ tabOk_nil)))))))
theorem mixed : Try.prog.follows .mixedOrders = true := by kernel_rfl
noncomputable def span_Check_code : Code := match Try.f21.body with | some c => c | none => .skip
theorem span_Check_fok : FuncOk tab (envL span_Check_env) span_Check_parts Try.f21 span_Check_code span_Check_spec := fun k x => by kernel_rfl
theorem span_Check_pok : PartsOk tab (envL span_Check_env) span_Check_parts 0 span_Check_code := ⟨trivial, trivial, ⟨trivial, ⟨trivial, trivial, ⟨⟨trivial, trivial, trivial⟩, trivial⟩⟩, ⟨trivial, trivial, trivial⟩⟩⟩
theorem span_Check_sok : SpecOk Try.prog 21 span_Check_spec := func_sound tabOk envOk_nil mixed Try.func21 rfl (by decide +kernel) (by decide) (by decide) (by kernel_rfl) span_Check_pok span_Check_fok
noncomputable def span_may_code : Code := match Try.f26.body with | some c => c | none => .skip
theorem span_may_fok : FuncOk tab (envL span_may_env) span_may_parts Try.f26 span_may_code span_may_spec := fun k x => by kernel_rfl
theorem span_may_pok : PartsOk tab (envL span_may_env) span_may_parts 0 span_may_code := ⟨trivial, trivial, ⟨trivial, trivial, trivial⟩⟩
theorem span_may_sok : SpecOk Try.prog 26 span_may_spec := func_sound tabOk (envOk_cons span_Check_sok envOk_nil) mixed Try.func26 rfl (by decide +kernel) (by decide) (by decide) (by kernel_rfl) span_may_pok span_may_fok
noncomputable def span_Has_code : Code := match Try.f9.body with | some c => c | none => .skip
theorem span_Has_fok : FuncOk tab (envL span_Has_env) span_Has_parts Try.f9 span_Has_code span_Has_spec := fun k x => by kernel_rfl
theorem span_Has_pok : PartsOk tab (envL span_Has_env) span_Has_parts 0 span_Has_code := ⟨trivial, trivial, ⟨trivial, trivial, trivial⟩⟩
theorem span_Has_sok : SpecOk Try.prog 9 span_Has_spec := func_sound tabOk (envOk_cons span_may_sok envOk_nil) mixed Try.func9 rfl (by decide +kernel) (by decide) (by decide) (by kernel_rfl) span_Has_pok span_Has_fok
noncomputable def span_Split_code : Code := match Try.f7.body with | some c => c | none => .skip
theorem span_Split_fok : FuncOk tab (envL span_Split_env) span_Split_parts Try.f7 span_Split_code span_Split_spec := fun k x => by kernel_rfl
theorem span_Split_pok : PartsOk tab (envL span_Split_env) span_Split_parts 0 span_Split_code := ⟨trivial, trivial, ⟨trivial, ⟨trivial, trivial, ⟨⟨trivial, trivial, trivial⟩, trivial⟩⟩, ⟨trivial, ⟨trivial, trivial, ⟨⟨trivial, trivial, trivial⟩, trivial⟩⟩, ⟨trivial, trivial, trivial⟩⟩⟩⟩
theorem span_Split_sok : SpecOk Try.prog 7 span_Split_spec := func_sound tabOk (envOk_cons span_may_sok (envOk_cons span_Has_sok envOk_nil)) mixed Try.func7 rfl (by decide +kernel) (by decide) (by decide) (by kernel_rfl) span_Split_pok span_Split_fok
noncomputable def ref10_May_code : Code := match Try.f8.body with | some c => c | none => .skip
theorem ref10_May_fok : FuncOk tab (envL ref10_May_env) ref10_May_parts Try.f8 ref10_May_code ref10_May_spec := fun k x => by kernel_rfl
theorem ref10_May_pok : PartsOk tab (envL ref10_May_env) ref10_May_parts 0 ref10_May_code := ⟨trivial, trivial, ⟨trivial, trivial, trivial⟩⟩
theorem ref10_May_sok : SpecOk Try.prog 8 ref10_May_spec := func_sound tabOk envOk_nil mixed Try.func8 rfl (by decide +kernel) (by decide) (by decide) (by kernel_rfl) ref10_May_pok ref10_May_fok
noncomputable def ref10_Has_code : Code := match Try.f10.body with | some c => c | none => .skip
theorem ref10_Has_fok : FuncOk tab (envL ref10_Has_env) ref10_Has_parts Try.f10 ref10_Has_code ref10_Has_spec := fun k x => by kernel_rfl
theorem ref10_Has_pok : PartsOk tab (envL ref10_Has_env) ref10_Has_parts 0 ref10_Has_code := ⟨trivial, trivial, ⟨trivial, trivial, trivial⟩⟩
theorem ref10_Has_sok : SpecOk Try.prog 10 ref10_Has_spec := func_sound tabOk envOk_nil mixed Try.func10 rfl (by decide +kernel) (by decide) (by decide) (by kernel_rfl) ref10_Has_pok ref10_Has_fok
noncomputable def span_ahead_code : Code := match Try.f27.body with | some c => c | none => .skip
theorem span_ahead_fok : FuncOk tab (envL span_ahead_env) span_ahead_parts Try.f27 span_ahead_code span_ahead_spec := fun k x => by kernel_rfl
theorem span_ahead_pok : PartsOk tab (envL span_ahead_env) span_ahead_parts 0 span_ahead_code := ⟨trivial, trivial, ⟨trivial, trivial, trivial⟩⟩
theorem span_ahead_sok : SpecOk Try.prog 27 span_ahead_spec := func_sound tabOk envOk_nil mixed Try.func27 rfl (by decide +kernel) (by decide) (by decide) (by kernel_rfl) span_ahead_pok span_ahead_fok
noncomputable def span_Form_code : Code := match Try.f15.body with | some c => c | none => .skip
theorem span_Form_fok : FuncOk tab (envL span_Form_env) span_Form_parts Try.f15 span_Form_code span_Form_spec := fun k x => by kernel_rfl
theorem span_Form_pok : PartsOk tab (envL span_Form_env) span_Form_parts 0 span_Form_code := ⟨trivial, trivial, ⟨trivial, ⟨trivial, trivial, ⟨⟨fun _ => by kernel_rfl, fun k x => by kernel_rfl⟩, ⟨trivial, trivial, ⟨trivial, ⟨trivial, trivial⟩, ⟨trivial, ⟨trivial, trivial, ⟨trivial, trivial, ⟨⟨trivial, trivial, trivial⟩, trivial⟩⟩⟩, trivial⟩⟩⟩⟩⟩, ⟨trivial, trivial, trivial⟩⟩⟩
theorem span_Form_sok : SpecOk Try.prog 15 span_Form_spec := func_sound tabOk (envOk_cons span_may_sok (envOk_cons span_ahead_sok envOk_nil)) mixed Try.func15 rfl (by decide +kernel) (by decide) (by decide) (by kernel_rfl) span_Form_pok span_Form_fok
noncomputable def span_below_code : Code := match Try.f28.body with | some c => c | none => .skip
theorem span_below_fok : FuncOk tab (envL span_below_env) span_below_parts Try.f28 span_below_code span_below_spec := fun k x => by kernel_rfl
theorem span_below_pok : PartsOk tab (envL span_below_env) span_below_parts 0 span_below_code := ⟨trivial, trivial, ⟨trivial, trivial, trivial⟩⟩
theorem span_below_sok : SpecOk Try.prog 28 span_below_spec := func_sound tabOk envOk_nil mixed Try.func28 rfl (by decide +kernel) (by decide) (by decide) (by kernel_rfl) span_below_pok span_below_fok
noncomputable def slices_Grow_api_Span_api_Span_code : Code := match Try.f37.body with | some c => c | none => .skip
theorem slices_Grow_api_Span_api_Span_fok : FuncOk tab (envL slices_Grow_api_Span_api_Span_env) slices_Grow_api_Span_api_Span_parts Try.f37 slices_Grow_api_Span_api_Span_code slices_Grow_api_Span_api_Span_spec := fun k x => by kernel_rfl
theorem slices_Grow_api_Span_api_Span_pok : PartsOk tab (envL slices_Grow_api_Span_api_Span_env) slices_Grow_api_Span_api_Span_parts 0 slices_Grow_api_Span_api_Span_code := ⟨trivial, trivial, ⟨trivial, ⟨trivial, trivial, ⟨trivial, trivial⟩⟩, ⟨trivial, ⟨trivial, trivial, ⟨trivial, trivial, ⟨trivial, trivial⟩⟩⟩, ⟨trivial, trivial, trivial⟩⟩⟩⟩
theorem slices_Grow_api_Span_api_Span_sok : SpecOk Try.prog 37 slices_Grow_api_Span_api_Span_spec := func_sound tabOk envOk_nil mixed Try.func37 rfl (by decide +kernel) (by decide) (by decide) (by kernel_rfl) slices_Grow_api_Span_api_Span_pok slices_Grow_api_Span_api_Span_fok
noncomputable def slices_Concat_api_Span_api_Span_code : Code := match Try.f30.body with | some c => c | none => .skip
theorem slices_Concat_api_Span_api_Span_fok : FuncOk tab (envL slices_Concat_api_Span_api_Span_env) slices_Concat_api_Span_api_Span_parts Try.f30 slices_Concat_api_Span_api_Span_code slices_Concat_api_Span_api_Span_spec := fun k x => by kernel_rfl
theorem slices_Concat_api_Span_api_Span_pok : PartsOk tab (envL slices_Concat_api_Span_api_Span_env) slices_Concat_api_Span_api_Span_parts 0 slices_Concat_api_Span_api_Span_code := ⟨trivial, trivial, ⟨trivial, trivial, ⟨trivial, ⟨trivial, trivial, ⟨⟨fun _ => by kernel_rfl, fun k x => by kernel_rfl⟩, ⟨trivial, trivial, ⟨trivial, ⟨trivial, trivial⟩, ⟨trivial, ⟨trivial, trivial, ⟨trivial, trivial, ⟨trivial, trivial, ⟨trivial, trivial⟩⟩⟩⟩, trivial⟩⟩⟩⟩⟩, ⟨trivial, trivial, ⟨trivial, ⟨trivial, trivial, ⟨⟨fun _ => by kernel_rfl, fun k x => by kernel_rfl⟩, ⟨trivial, trivial, ⟨trivial, ⟨trivial, trivial⟩, ⟨trivial, ⟨trivial, trivial, trivial⟩, trivial⟩⟩⟩⟩⟩, ⟨trivial, trivial, trivial⟩⟩⟩⟩⟩⟩
theorem slices_Concat_api_Span_api_Span_sok : SpecOk Try.prog 30 slices_Concat_api_Span_api_Span_spec := func_sound tabOk (envOk_cons slices_Grow_api_Span_api_Span_sok envOk_nil) mixed Try.func30 rfl (by decide +kernel) (by decide) (by decide) (by kernel_rfl) slices_Concat_api_Span_api_Span_pok slices_Concat_api_Span_api_Span_fok
noncomputable def span_told_code : Code := match Try.f29.body with | some c => c | none => .skip
theorem span_told_fok : FuncOk tab (envL span_told_env) span_told_parts Try.f29 span_told_code span_told_spec := fun k x => by kernel_rfl
theorem span_told_pok : PartsOk tab (envL span_told_env) span_told_parts 0 span_told_code := ⟨trivial, trivial, ⟨trivial, ⟨trivial, trivial, ⟨⟨trivial, trivial, trivial⟩, trivial⟩⟩, ⟨trivial, trivial, trivial⟩⟩⟩
theorem span_told_sok : SpecOk Try.prog 29 span_told_spec := func_sound tabOk envOk_nil mixed Try.func29 rfl (by decide +kernel) (by decide) (by decide) (by kernel_rfl) span_told_pok span_told_fok
noncomputable def span_Add_code : Code := match Try.f13.body with | some c => c | none => .skip
theorem span_Add_fok : FuncOk tab (envL span_Add_env) span_Add_parts Try.f13 span_Add_code span_Add_spec := fun k x => by kernel_rfl
theorem span_Add_pok : PartsOk tab (envL span_Add_env) span_Add_parts 0 span_Add_code := ⟨trivial, trivial, ⟨trivial, ⟨trivial, trivial, ⟨⟨trivial, trivial, trivial⟩, trivial⟩⟩, ⟨trivial, trivial, ⟨trivial, ⟨trivial, trivial, ⟨⟨fun _ => by kernel_rfl, fun k x => by kernel_rfl⟩, ⟨trivial, trivial, ⟨trivial, ⟨trivial, trivial⟩, ⟨trivial, ⟨trivial, trivial, ⟨trivial, trivial, ⟨trivial, ⟨trivial, trivial, ⟨trivial, ⟨trivial, trivial, ⟨trivial, trivial, ⟨trivial, trivial⟩⟩⟩⟩⟩⟩⟩⟩, trivial⟩⟩⟩⟩⟩, ⟨trivial, trivial, trivial⟩⟩⟩⟩⟩
theorem span_Add_sok : SpecOk Try.prog 13 span_Add_spec := func_sound tabOk (envOk_cons span_Form_sok (envOk_cons span_may_sok (envOk_cons span_ahead_sok (envOk_cons span_below_sok (envOk_cons slices_Concat_api_Span_api_Span_sok (envOk_cons span_told_sok envOk_nil)))))) mixed Try.func13 rfl (by decide +kernel) (by decide) (by decide) (by kernel_rfl) span_Add_pok span_Add_fok
noncomputable def slices_IndexFunc_api_Span_api_Span_code : Code := match Try.f39.body with | some c => c | none => .skip
theorem slices_IndexFunc_api_Span_api_Span_fok : FuncOk tab (envL slices_IndexFunc_api_Span_api_Span_env) slices_IndexFunc_api_Span_api_Span_parts Try.f39 slices_IndexFunc_api_Span_api_Span_code slices_IndexFunc_api_Span_api_Span_spec := fun k x => by kernel_rfl
theorem slices_IndexFunc_api_Span_api_Span_pok : PartsOk tab (envL slices_IndexFunc_api_Span_api_Span_env) slices_IndexFunc_api_Span_api_Span_parts 0 slices_IndexFunc_api_Span_api_Span_code := ⟨trivial, trivial, ⟨trivial, ⟨trivial, trivial, ⟨⟨fun _ => by kernel_rfl, fun k x => by kernel_rfl⟩, ⟨trivial, trivial, ⟨trivial, ⟨trivial, trivial⟩, ⟨trivial, ⟨trivial, trivial, ⟨trivial, trivial, ⟨⟨trivial, trivial, trivial⟩, trivial⟩⟩⟩, trivial⟩⟩⟩⟩⟩, ⟨trivial, trivial, trivial⟩⟩⟩
theorem slices_IndexFunc_api_Span_api_Span_sok : SpecOk Try.prog 39 slices_IndexFunc_api_Span_api_Span_spec := func_sound tabOk envOk_nil mixed Try.func39 rfl (by decide +kernel) (by decide) (by decide) (by kernel_rfl) slices_IndexFunc_api_Span_api_Span_pok slices_IndexFunc_api_Span_api_Span_fok
noncomputable def slices_ContainsFunc_api_Span_api_Span_code : Code := match Try.f34.body with | some c => c | none => .skip
theorem slices_ContainsFunc_api_Span_api_Span_fok : FuncOk tab (envL slices_ContainsFunc_api_Span_api_Span_env) slices_ContainsFunc_api_Span_api_Span_parts Try.f34 slices_ContainsFunc_api_Span_api_Span_code slices_ContainsFunc_api_Span_api_Span_spec := fun k x => by kernel_rfl
theorem slices_ContainsFunc_api_Span_api_Span_pok : PartsOk tab (envL slices_ContainsFunc_api_Span_api_Span_env) slices_ContainsFunc_api_Span_api_Span_parts 0 slices_ContainsFunc_api_Span_api_Span_code := ⟨trivial, trivial, ⟨trivial, trivial, trivial⟩⟩
theorem slices_ContainsFunc_api_Span_api_Span_sok : SpecOk Try.prog 34 slices_ContainsFunc_api_Span_api_Span_spec := func_sound tabOk (envOk_cons slices_IndexFunc_api_Span_api_Span_sok envOk_nil) mixed Try.func34 rfl (by decide +kernel) (by decide) (by decide) (by kernel_rfl) slices_ContainsFunc_api_Span_api_Span_pok slices_ContainsFunc_api_Span_api_Span_fok
noncomputable def span_In_1_code : Code := match Try.f35.body with | some c => c | none => .skip
theorem span_In_1_fok : FuncOk tab (envL span_In_1_env) span_In_1_parts Try.f35 span_In_1_code span_In_1_spec := fun k x => by kernel_rfl
theorem span_In_1_pok : PartsOk tab (envL span_In_1_env) span_In_1_parts 0 span_In_1_code := ⟨trivial, trivial, ⟨trivial, trivial, trivial⟩⟩
theorem span_In_1_sok : SpecOk Try.prog 35 span_In_1_spec := func_sound tabOk (envOk_cons span_Has_sok envOk_nil) mixed Try.func35 rfl (by decide +kernel) (by decide) (by decide) (by kernel_rfl) span_In_1_pok span_In_1_fok
noncomputable def span_In_code : Code := match Try.f22.body with | some c => c | none => .skip
theorem span_In_fok : FuncOk tab (envL span_In_env) span_In_parts Try.f22 span_In_code span_In_spec := fun k x => by kernel_rfl
theorem span_In_pok : PartsOk tab (envL span_In_env) span_In_parts 0 span_In_code := ⟨trivial, trivial, ⟨trivial, trivial, trivial⟩⟩
theorem span_In_sok : SpecOk Try.prog 22 span_In_spec := func_sound tabOk (envOk_cons span_Form_sok (envOk_cons slices_ContainsFunc_api_Span_api_Span_sok (envOk_cons span_In_1_sok envOk_nil))) mixed Try.func22 rfl (by decide +kernel) (by decide) (by decide) (by kernel_rfl) span_In_pok span_In_fok
noncomputable def law10_awake_code : Code := match Try.f11.body with | some c => c | none => .skip
theorem law10_awake_fok : FuncOk tab (envL law10_awake_env) law10_awake_parts Try.f11 law10_awake_code law10_awake_spec := fun k x => by kernel_rfl
theorem law10_awake_pok : PartsOk tab (envL law10_awake_env) law10_awake_parts 0 law10_awake_code := ⟨trivial, trivial, ⟨trivial, trivial, ⟨trivial, trivial, trivial⟩⟩⟩
theorem law10_awake_sok : SpecOk Try.prog 11 law10_awake_spec := func_sound tabOk (envOk_cons span_Add_sok (envOk_cons span_In_sok (envOk_cons span_Check_sok envOk_nil))) mixed Try.func11 rfl (by decide +kernel) (by decide) (by decide) (by kernel_rfl) law10_awake_pok law10_awake_fok
noncomputable def law10_SpanSplits_code : Code := match Try.f3.body with | some c => c | none => .skip
theorem law10_SpanSplits_fok : FuncOk tab (envL law10_SpanSplits_env) law10_SpanSplits_parts Try.f3 law10_SpanSplits_code law10_SpanSplits_spec := fun k x => by kernel_rfl
theorem law10_SpanSplits_pok : PartsOk tab (envL law10_SpanSplits_env) law10_SpanSplits_parts 0 law10_SpanSplits_code := ⟨trivial, trivial, ⟨trivial, trivial, ⟨fun k x => by kernel_rfl, trivial, ⟨trivial, ⟨fun k x => by kernel_rfl, trivial, ⟨⟨trivial, trivial, trivial⟩, trivial⟩⟩, ⟨trivial, ⟨trivial, trivial, ⟨⟨trivial, trivial, trivial⟩, trivial⟩⟩, ⟨trivial, ⟨trivial, trivial, ⟨⟨trivial, trivial, trivial⟩, trivial⟩⟩, ⟨trivial, ⟨trivial, trivial, ⟨⟨trivial, trivial, trivial⟩, trivial⟩⟩, ⟨trivial, trivial, trivial⟩⟩⟩⟩⟩⟩⟩⟩
theorem law10_SpanSplits_sok : SpecOk Try.prog 3 law10_SpanSplits_spec := func_sound tabOk (envOk_cons span_Split_sok (envOk_cons ref10_May_sok (envOk_cons span_Has_sok (envOk_cons ref10_Has_sok (envOk_cons law10_awake_sok envOk_nil))))) mixed Try.func3 rfl (by decide +kernel) (by decide) (by decide) (by kernel_rfl) law10_SpanSplits_pok law10_SpanSplits_fok
end Go.Proofs.Ytlgfmkccnljhoaa.gg
