/- What the functions compute: printed by a program of our own. -/
import Derived.Test.YtdmegcnkfngojaaK6
import Derived.Test.YtdmegcnkfngojaaK5
import Derived.Test.YtdmegcnkfngojaaCompI
open Go Go.GG
set_option linter.unusedVariables false
namespace Go.Proofs.Ytdmegcnkfngojaa.gg
def tab : Tab := [(3, ⟨.int .i64, 1, 8, [.int .i64 0], some (.int .i64), false⟩),
  (9, ⟨.str, 1, 16, [.string ⟨#[]⟩], some .str, false⟩),
  (22, ⟨.slice 38, 1, 24, [.slice none 0 0], some (.slice (.pair (.pair .str .str) (.pair (.int .i64) (.int .u64)))), false⟩),
  (23, ⟨.int .i64, 1, 8, [.int .i64 0], some (.int .i64), false⟩),
  (29, ⟨.int .u64, 1, 8, [.int .u64 0], some (.int .u64), false⟩),
  (36, ⟨.struct [(9, 0), (9, 1)], 2, 32, [.string ⟨#[]⟩, .string ⟨#[]⟩], some (.pair .str .str), true⟩),
  (38, ⟨.struct [(36, 0), (3, 2), (29, 3)], 4, 48, [.string ⟨#[]⟩, .string ⟨#[]⟩, .int .i64 0, .int .u64 0], some (.pair (.pair .str .str) (.pair (.int .i64) (.int .u64))), false⟩),
  (48, ⟨.slice 36, 1, 24, [.slice none 0 0], some (.slice (.pair .str .str)), false⟩),
  (59, ⟨.slice 9, 1, 24, [.slice none 0 0], some (.slice .str), false⟩),
  (60, ⟨.slice 3, 1, 24, [.slice none 0 0], some (.slice (.int .i64)), false⟩),
  (116, ⟨.slice 48, 1, 24, [.slice none 0 0], some (.slice (.slice (.pair .str .str))), false⟩)]
def chart_group (k : Nat) (x0 : Int) : Option Bool := (bif (decide (x0 ≥ 1)) then some (decide (x0 ≤ 16)) else some false)
def chart_group_spec : FSpec := ⟨[.imm (.int .i64)], [.imm .bool], fun k x => chart_group k x⟩
def chart_group_parts : Parts := fun _ => none
def chart_group_env : List (Nat × FSpec) := []
def chart_New (k : Nat) (x0 : Int) : Option ((List (((List UInt8) × List UInt8) × Int × Int)) × Int) := ((chart_group k x0).bind fun r1 => (bif (!r1) then some ([], 1) else some ([(([], []), (x0, 1))], 0)))
def chart_New_spec : FSpec := ⟨[.imm (.int .i64)], [.own (.pair (.pair .str .str) (.pair (.int .i64) (.int .u64))), .imm (.int .i64)], fun k x => chart_New k x⟩
def chart_New_parts : Parts := fun _ => none
def chart_New_env : List (Nat × FSpec) := [(40, chart_group_spec)]
def span_Check (k : Nat) (x0 : (List UInt8) × List UInt8) : Option Int := (bif (decide (((x0.1).length : Int) > 64)) then some 1 else (bif (decide (((x0.2).length : Int) > 64)) then some 1 else (bif (!(x0.2 == [])) then (bif (strLess x0.2 x0.1 || x0.2 == x0.1) then some 1 else some 0) else some 0)))
def span_Check_spec : FSpec := ⟨[.agg (.pair .str .str)], [.imm (.int .i64)], fun k x => span_Check k x⟩
def span_Check_parts : Parts := fun _ => none
def span_Check_env : List (Nat × FSpec) := []
def chart_Check_p14 : Nat → (List (((List UInt8) × List UInt8) × Int × Int)) → (List (((List UInt8) × List UInt8) × Int × Int)) → Int → Int → Option (Unit ⊕ Int)
  | 0, _, _, _, _ => none
  | k + 1, v0, v1, v2, v3 => (bif (decide (v3 < v2)) then ((at? v1 v3).bind fun e3 => ((span_Check k e3.1).bind fun r4 => (bif (r4 != 0) then some (.inr 1) else ((chart_group k e3.2.1).bind fun r5 => (bif (!r5) then some (.inr 1) else (bif (decide (e3.2.2 < 1)) then some (.inr 1) else (bif (decide (e3.2.2 > 4611686018427387904)) then some (.inr 1) else (bif (decide (v3 > 0)) then ((at? v0 (IntKind.wrap .i64 (v3 - 1))).bind fun e6 => (bif (!(e6.1.2 == e3.1.1)) then some (.inr 1) else (bif (e3.1.1 == []) then some (.inr 1) else chart_Check_p14 k v0 v1 v2 (IntKind.wrap .i64 (v3 + 1))))) else chart_Check_p14 k v0 v1 v2 (IntKind.wrap .i64 (v3 + 1)))))))))) else some (.inl ()))
def chart_Check_u14 : Part := ⟨⟨[], [.val 0 (.slice (.pair (.pair .str .str) (.pair (.int .i64) (.int .u64)))), .val 32 (.slice (.pair (.pair .str .str) (.pair (.int .i64) (.int .u64)))), .val 33 (.int .i64), .val 34 (.int .i64)]⟩, [(.exit 0, ⟨[], []⟩), (.ret, ⟨[], [.val 2 (.int .i64)]⟩)], fun k x => chart_Check_p14 k x.1 x.2.1 x.2.2.1 x.2.2.2⟩
def chart_Check (k : Nat) (x0 : List (((List UInt8) × List UInt8) × Int × Int)) : Option Int := (bif (((x0).length : Int) == 0) then some 1 else (bif (decide (((x0).length : Int) > 64)) then some 1 else ((at? x0 0).bind fun e1 => (bif (!(e1.1.1 == [])) then some 1 else ((at? x0 (IntKind.wrap .i64 (((x0).length : Int) - 1))).bind fun e2 => (bif (!(e2.1.2 == [])) then some 1 else ((chart_Check_p14 k x0 x0 ((x0).length : Int) 0).bind fun o7 => Sum.elim (fun a8 => some 0) (fun b9 => some b9) o7)))))))
def chart_Check_spec : FSpec := ⟨[.imm (.slice (.pair (.pair .str .str) (.pair (.int .i64) (.int .u64))))], [.imm (.int .i64)], fun k x => chart_Check k x⟩
def chart_Check_parts : Parts := fun n => cond (Nat.beq n 14) (some chart_Check_u14) (none)
def chart_Check_env : List (Nat × FSpec) := [(39, span_Check_spec), (40, chart_group_spec)]
def slices_IndexFunc_api_Range_api_Range_p6 : Nat → (List (((List UInt8) × List UInt8) × Int × Int)) → (((List UInt8) × List UInt8) × Int × Int → Option Bool) → Int → Int → Option (Unit ⊕ Int)
  | 0, _, _, _, _ => none
  | k + 1, v0, v1, v2, v3 => (bif (decide (v3 < v2)) then ((at? v0 v3).bind fun e1 => ((v1 e1).bind fun z2 => (bif z2 then some (.inr v3) else slices_IndexFunc_api_Range_api_Range_p6 k v0 v1 v2 (IntKind.wrap .i64 (v3 + 1))))) else some (.inl ()))
def slices_IndexFunc_api_Range_api_Range_u6 : Part := ⟨⟨[], [.val 0 (.slice (.pair (.pair .str .str) (.pair (.int .i64) (.int .u64)))), .fn 1 [⟨(.pair (.pair .str .str) (.pair (.int .i64) (.int .u64))), true⟩] .bool, .val 7 (.int .i64), .val 8 (.int .i64)]⟩, [(.exit 0, ⟨[], []⟩), (.ret, ⟨[], [.val 4 (.int .i64)]⟩)], fun k x => slices_IndexFunc_api_Range_api_Range_p6 k x.1 x.2.1 x.2.2.1 x.2.2.2⟩
def slices_IndexFunc_api_Range_api_Range (k : Nat) (x0 : List (((List UInt8) × List UInt8) × Int × Int)) (x1 : ((List UInt8) × List UInt8) × Int × Int → Option Bool) : Option Int := ((slices_IndexFunc_api_Range_api_Range_p6 k x0 x1 ((x0).length : Int) 0).bind fun o3 => Sum.elim (fun a4 => some (-1)) (fun b5 => some b5) o3)
def slices_IndexFunc_api_Range_api_Range_spec : FSpec := ⟨[.imm (.slice (.pair (.pair .str .str) (.pair (.int .i64) (.int .u64)))), .fn [⟨(.pair (.pair .str .str) (.pair (.int .i64) (.int .u64))), true⟩] .bool], [.imm (.int .i64)], fun k x => slices_IndexFunc_api_Range_api_Range k x.1 x.2⟩
def slices_IndexFunc_api_Range_api_Range_parts : Parts := fun n => cond (Nat.beq n 6) (some slices_IndexFunc_api_Range_api_Range_u6) (none)
def slices_IndexFunc_api_Range_api_Range_env : List (Nat × FSpec) := []
def span_may (k : Nat) (x0 : (List UInt8) × List UInt8) : Option Bool := ((span_Check k x0).bind fun r1 => some (r1 == 0))
def span_may_spec : FSpec := ⟨[.agg (.pair .str .str)], [.imm .bool], fun k x => span_may k x⟩
def span_may_parts : Parts := fun _ => none
def span_may_env : List (Nat × FSpec) := [(39, span_Check_spec)]
def span_Has (k : Nat) (x0 : (List UInt8) × List UInt8) (x1 : List UInt8) : Option Bool := ((span_may k x0).bind fun r1 => (bif r1 then (bif (decide (((x1).length : Int) ≤ 64)) then (bif (!strLess x1 x0.1) then (bif (x0.2 == []) then some true else some (strLess x1 x0.2)) else some false) else some false) else some false))
def span_Has_spec : FSpec := ⟨[.agg (.pair .str .str), .imm .str], [.imm .bool], fun k x => span_Has k x.1 x.2⟩
def span_Has_parts : Parts := fun _ => none
def span_Has_env : List (Nat × FSpec) := [(61, span_may_spec)]
def chart_Find_1 (k : Nat) (x0 : ((List UInt8) × List UInt8) × Int × Int) (x1 : List UInt8) : Option Bool := ((span_Has k x0.1 x1).bind fun r1 => some r1)
def chart_Find_1_spec : FSpec := ⟨[.agg (.pair (.pair .str .str) (.pair (.int .i64) (.int .u64))), .ro .str], [.imm .bool], fun k x => chart_Find_1 k x.1 x.2⟩
def chart_Find_1_parts : Parts := fun _ => none
def chart_Find_1_env : List (Nat × FSpec) := [(38, span_Has_spec)]
def chart_Find (k : Nat) (x0 : List (((List UInt8) × List UInt8) × Int × Int)) (x1 : List UInt8) : Option (Int × Int) := ((chart_Check k x0).bind fun r1 => (bif (r1 != 0) then some (0, 1) else (bif (decide (((x1).length : Int) > 64)) then some (0, 1) else ((slices_IndexFunc_api_Range_api_Range k x0 (fun y2 => ((chart_Find_1 k y2 x1).bind fun z => some z))).bind fun r3 => some (r3, 0)))))
def chart_Find_spec : FSpec := ⟨[.imm (.slice (.pair (.pair .str .str) (.pair (.int .i64) (.int .u64)))), .imm .str], [.imm (.int .i64), .imm (.int .i64)], fun k x => chart_Find k x.1 x.2⟩
def chart_Find_parts : Parts := fun _ => none
def chart_Find_env : List (Nat × FSpec) := [(11, chart_Check_spec), (36, slices_IndexFunc_api_Range_api_Range_spec), (37, chart_Find_1_spec)]
def span_Split (k : Nat) (x0 : (List UInt8) × List UInt8) (x1 : List UInt8) : Option (((List UInt8) × List UInt8) × ((List UInt8) × List UInt8) × Int) := ((span_may k x0).bind fun r1 => (bif (!r1) then some (([], []), ([], []), 1) else (bif (decide (((x1).length : Int) > 64)) then some (([], []), ([], []), 1) else ((span_Has k x0 x1).bind fun r2 => (bif (!r2) then some (([], []), ([], []), 10) else (bif (x1 == x0.1) then some (([], []), ([], []), 10) else some ((x0.1, x1), (x1, x0.2), 0)))))))
def span_Split_spec : FSpec := ⟨[.agg (.pair .str .str), .imm .str], [.agg (.pair .str .str), .agg (.pair .str .str), .imm (.int .i64)], fun k x => span_Split k x.1 x.2⟩
def span_Split_parts : Parts := fun _ => none
def span_Split_env : List (Nat × FSpec) := [(61, span_may_spec), (38, span_Has_spec)]
def chart_Version_p16 : Nat → Int → (List (((List UInt8) × List UInt8) × Int × Int)) → Int → Int → Option Int
  | 0, _, _, _, _ => none
  | k + 1, v0, v1, v2, v3 => (bif (decide (v3 < v2)) then ((at? v1 v3).bind fun e2 => chart_Version_p16 k (intMax v0 e2.2.2) v1 v2 (IntKind.wrap .i64 (v3 + 1))) else some v0)
def chart_Version_u16 : Part := ⟨⟨[], [.val 3 (.int .u64), .val 9 (.slice (.pair (.pair .str .str) (.pair (.int .i64) (.int .u64)))), .val 10 (.int .i64), .val 11 (.int .i64)]⟩, [(.exit 0, ⟨[], [.val 3 (.int .u64)]⟩)], fun k x => chart_Version_p16 k x.1 x.2.1 x.2.2.1 x.2.2.2⟩
def chart_Version (k : Nat) (x0 : List (((List UInt8) × List UInt8) × Int × Int)) : Option Int := ((chart_Check k x0).bind fun r1 => (bif (r1 != 0) then some 0 else ((chart_Version_p16 k 0 x0 ((x0).length : Int) 0).bind fun o3 => some o3)))
def chart_Version_spec : FSpec := ⟨[.imm (.slice (.pair (.pair .str .str) (.pair (.int .i64) (.int .u64))))], [.imm (.int .u64)], fun k x => chart_Version k x⟩
def chart_Version_parts : Parts := fun n => cond (Nat.beq n 16) (some chart_Version_u16) (none)
def chart_Version_env : List (Nat × FSpec) := [(11, chart_Check_spec)]
def slices_Clone_api_Range_api_Range_nil (k : Nat) (x0 : Unit) : Option (List (((List UInt8) × List UInt8) × Int × Int)) := some []
def slices_Clone_api_Range_api_Range_nil_spec : FSpec := ⟨[.nils], [.own (.pair (.pair .str .str) (.pair (.int .i64) (.int .u64)))], fun k x => slices_Clone_api_Range_api_Range_nil k x⟩
def slices_Clone_api_Range_api_Range_nil_parts : Parts := fun _ => none
def slices_Clone_api_Range_api_Range_nil_env : List (Nat × FSpec) := []
def slices_Clone_api_Range_api_Range (k : Nat) (x0 : List (((List UInt8) × List UInt8) × Int × Int)) : Option (List (((List UInt8) × List UInt8) × Int × Int)) := (bif room (([] ++ x0)).length 48 then some ([] ++ x0) else none)
def slices_Clone_api_Range_api_Range_spec : FSpec := ⟨[.imm (.slice (.pair (.pair .str .str) (.pair (.int .i64) (.int .u64))))], [.own (.pair (.pair .str .str) (.pair (.int .i64) (.int .u64)))], fun k x => slices_Clone_api_Range_api_Range k x⟩
def slices_Clone_api_Range_api_Range_sspec : FSpec := ⟨[.nnil (.pair (.pair .str .str) (.pair (.int .i64) (.int .u64)))], [.own (.pair (.pair .str .str) (.pair (.int .i64) (.int .u64)))], fun k x => slices_Clone_api_Range_api_Range k x⟩
def slices_Clone_api_Range_api_Range_parts : Parts := fun _ => none
def slices_Clone_api_Range_api_Range_env : List (Nat × FSpec) := []
def chart_turned_p10 : Nat → (List (((List UInt8) × List UInt8) × Int × Int)) → Int → Int → (List (((List UInt8) × List UInt8) × Int × Int)) → Int → Int → (List (((List UInt8) × List UInt8) × Int × Int)) → Option (((List (((List UInt8) × List UInt8) × Int × Int)) × Int × Int × List (((List UInt8) × List UInt8) × Int × Int)))
  | 0, _, _, _, _, _, _, _ => none
  | k + 1, v0, v1, v2, v3, v4, v5, v6 => (bif (decide (v5 < v4)) then ((at? v3 v5).bind fun e3 => (bif room ((v6 ++ [(e3.1, (e3.2.1, v2))])).length 48 then chart_turned_p10 k v0 v1 v2 v3 v4 (IntKind.wrap .i64 (v5 + 1)) (v6 ++ [(e3.1, (e3.2.1, v2))]) else none)) else some (v0, v1, v2, v6))
def chart_turned_u10 : Part := ⟨⟨[(11, .sref 500000)], [.val 0 (.slice (.pair (.pair .str .str) (.pair (.int .i64) (.int .u64)))), .val 2 (.int .i64), .val 10 (.int .u64), .val 21 (.slice (.pair (.pair .str .str) (.pair (.int .i64) (.int .u64)))), .val 22 (.int .i64), .val 23 (.int .i64), .arr 500000 (.pair (.pair .str .str) (.pair (.int .i64) (.int .u64)))]⟩, [(.exit 0, ⟨[(11, .sref 500000)], [.val 0 (.slice (.pair (.pair .str .str) (.pair (.int .i64) (.int .u64)))), .val 2 (.int .i64), .val 10 (.int .u64), .arr 500000 (.pair (.pair .str .str) (.pair (.int .i64) (.int .u64)))]⟩)], fun k x => chart_turned_p10 k x.1 x.2.1 x.2.2.1 x.2.2.2.1 x.2.2.2.2.1 x.2.2.2.2.2.1 x.2.2.2.2.2.2⟩
def chart_turned (k : Nat) (x0 : List (((List UInt8) × List UInt8) × Int × Int)) (x1 : Int) (x2 : Int) (x3 : List (((List UInt8) × List UInt8) × Int × Int)) : Option ((List (((List UInt8) × List UInt8) × Int × Int)) × Int) := ((chart_Version k x0).bind fun r1 => (bif (true && decide ((0 : Int) ≤ x1) && decide (x1 ≤ ((x0).length : Int))) then ((slices_Clone_api_Range_api_Range k (cut x0 0 x1)).bind fun r2 => ((chart_turned_p10 k x0 x2 (IntKind.wrap .u64 (r1 + 1)) x3 ((x3).length : Int) 0 r2).bind fun o4 => (bif (decide ((0 : Int) ≤ o4.2.1) && decide (o4.2.1 ≤ ((o4.1).length : Int)) && decide (((o4.1).length : Int) ≤ ((o4.1).length : Int))) then (bif room ((o4.2.2.2 ++ (cut o4.1 o4.2.1 ((o4.1).length : Int)))).length 48 then (bif (decide ((((o4.2.2.2 ++ (cut o4.1 o4.2.1 ((o4.1).length : Int)))).length : Int) > 64)) then some ([], 2) else (bif (decide (o4.2.2.1 > 4611686018427387904)) then some ([], 2) else some ((o4.2.2.2 ++ (cut o4.1 o4.2.1 ((o4.1).length : Int))), 0))) else none) else none))) else none))
def chart_turned_spec : FSpec := ⟨[.imm (.slice (.pair (.pair .str .str) (.pair (.int .i64) (.int .u64)))), .imm (.int .i64), .imm (.int .i64), .imm (.slice (.pair (.pair .str .str) (.pair (.int .i64) (.int .u64))))], [.own (.pair (.pair .str .str) (.pair (.int .i64) (.int .u64))), .imm (.int .i64)], fun k x => chart_turned k x.1 x.2.1 x.2.2.1 x.2.2.2⟩
def chart_turned_parts : Parts := fun n => cond (Nat.beq n 10) (some chart_turned_u10) (none)
def chart_turned_env : List (Nat × FSpec) := [(13, chart_Version_spec), (62, slices_Clone_api_Range_api_Range_spec)]
def chart_Split (k : Nat) (x0 : List (((List UInt8) × List UInt8) × Int × Int)) (x1 : List UInt8) : Option ((List (((List UInt8) × List UInt8) × Int × Int)) × Int) := ((chart_Find k x0 x1).bind fun r1 => (bif (r1.2 != 0) then some ([], r1.2) else ((at? x0 r1.1).bind fun e2 => ((span_Split k e2.1 x1).bind fun r3 => (bif (r3.2.2 != 0) then some ([], 6) else ((at? x0 r1.1).bind fun e4 => ((at? x0 r1.1).bind fun e5 => ((chart_turned k x0 r1.1 (IntKind.wrap .i64 (r1.1 + 1)) [(r3.1, (e4.2.1, 0)), (r3.2.1, (e5.2.1, 0))]).bind fun r6 => some r6))))))))
def chart_Split_spec : FSpec := ⟨[.imm (.slice (.pair (.pair .str .str) (.pair (.int .i64) (.int .u64)))), .imm .str], [.imm (.slice (.pair (.pair .str .str) (.pair (.int .i64) (.int .u64)))), .imm (.int .i64)], fun k x => chart_Split k x.1 x.2⟩
def chart_Split_parts : Parts := fun _ => none
def chart_Split_env : List (Nat × FSpec) := [(9, chart_Find_spec), (42, span_Split_spec), (43, chart_turned_spec)]
def chart_Move (k : Nat) (x0 : List (((List UInt8) × List UInt8) × Int × Int)) (x1 : List UInt8) (x2 : Int) : Option ((List (((List UInt8) × List UInt8) × Int × Int)) × Int) := ((chart_Find k x0 x1).bind fun r1 => (bif (r1.2 != 0) then some ([], 1) else ((chart_group k x2).bind fun r2 => (bif (!r2) then some ([], 1) else ((at? x0 r1.1).bind fun e3 => (bif (e3.2.1 == x2) then some ([], 6) else ((at? x0 r1.1).bind fun e4 => ((chart_turned k x0 r1.1 (IntKind.wrap .i64 (r1.1 + 1)) [(e4.1, (x2, 0))]).bind fun r5 => some r5))))))))
def chart_Move_spec : FSpec := ⟨[.imm (.slice (.pair (.pair .str .str) (.pair (.int .i64) (.int .u64)))), .imm .str, .imm (.int .i64)], [.imm (.slice (.pair (.pair .str .str) (.pair (.int .i64) (.int .u64)))), .imm (.int .i64)], fun k x => chart_Move k x.1 x.2.1 x.2.2⟩
def chart_Move_parts : Parts := fun _ => none
def chart_Move_env : List (Nat × FSpec) := [(9, chart_Find_spec), (40, chart_group_spec), (43, chart_turned_spec)]
def law11_awake (k : Nat) : Option Bool := ((chart_New k 1).bind fun r1 => (bif (r1.2 != 0) then some false else ((chart_Split k r1.1 [109]).bind fun r2 => (bif (r2.2 != 0) then some false else ((chart_Move k r2.1 [109] 2).bind fun r3 => ((chart_Find k r3.1 [122]).bind fun r4 => (bif (r3.2 == 0) then (bif (r4.2 == 0) then (bif (r4.1 == 1) then (bif (((r3.1).length : Int) == 2) then ((at? r3.1 1).bind fun e5 => (bif (e5.2.1 == 2) then ((at? r3.1 1).bind fun e6 => (bif (e6.2.2 == 3) then ((chart_Version k r3.1).bind fun r7 => some (r7 == 3)) else some false)) else some false)) else some false) else some false) else some false) else some false)))))))
def law11_awake_spec : FSpec := ⟨[], [.imm .bool], fun k x => law11_awake k⟩
def law11_awake_parts : Parts := fun _ => none
def law11_awake_env : List (Nat × FSpec) := [(15, chart_New_spec), (18, chart_Split_spec), (22, chart_Move_spec), (9, chart_Find_spec), (13, chart_Version_spec)]
def slices_Sort_int_int_spec : FSpec := sortISpec
def slices_Compact_int_int_spec : FSpec := compISpec
def chart_Groups_p16 : Nat → (List (((List UInt8) × List UInt8) × Int × Int)) → (List (List UInt8)) → Int → Int → (List Int) → Option ((List Int) ⊕ Int)
  | 0, _, _, _, _, _ => none
  | k + 1, v0, v1, v2, v3, v4 => (bif (decide (v3 < v2)) then ((at? v1 v3).bind fun e2 => ((chart_Find k v0 e2).bind fun r3 => (bif (r3.2 != 0) then some (.inr r3.2) else ((at? v0 r3.1).bind fun e4 => (bif room ((v4 ++ [e4.2.1])).length 8 then chart_Groups_p16 k v0 v1 v2 (IntKind.wrap .i64 (v3 + 1)) (v4 ++ [e4.2.1]) else none))))) else some (.inl v4))
def chart_Groups_u16 : Part := ⟨⟨[(6, .sref 500001)], [.val 0 (.slice (.pair (.pair .str .str) (.pair (.int .i64) (.int .u64)))), .val 14 (.slice .str), .val 15 (.int .i64), .val 16 (.int .i64), .arr 500001 (.int .i64)]⟩, [(.exit 0, ⟨[(6, .sref 500001)], [.arr 500001 (.int .i64)]⟩), (.ret, ⟨[(4, .nils)], [.val 5 (.int .i64)]⟩)], fun k x => chart_Groups_p16 k x.1 x.2.1 x.2.2.1 x.2.2.2.1 x.2.2.2.2⟩
def chart_Groups (k : Nat) (x0 : List (((List UInt8) × List UInt8) × Int × Int)) (x1 : List (List UInt8)) : Option ((List Int) × Int) := ((chart_Check k x0).bind fun r1 => (bif (r1 != 0) then some ([], 1) else ((chart_Groups_p16 k x0 x1 ((x1).length : Int) 0 []).bind fun o5 => Sum.elim (fun a6 => ((sortIF a6).bind fun z8 => ((compIF z8).bind fun r9 => some (r9, 0)))) (fun b7 => some ([], b7)) o5)))
def chart_Groups_spec : FSpec := ⟨[.imm (.slice (.pair (.pair .str .str) (.pair (.int .i64) (.int .u64)))), .imm (.slice .str)], [.own (.int .i64), .imm (.int .i64)], fun k x => chart_Groups k x.1 x.2⟩
def chart_Groups_parts : Parts := fun n => cond (Nat.beq n 16) (some chart_Groups_u16) (none)
def chart_Groups_env : List (Nat × FSpec) := [(11, chart_Check_spec), (9, chart_Find_spec), (59, slices_Sort_int_int_spec), (60, slices_Compact_int_int_spec)]
def span_ahead (k : Nat) (x0 : List UInt8) (x1 : List UInt8) : Option Bool := (bif (!(x0 == [])) then some (strLess x0 x1) else some false)
def span_ahead_spec : FSpec := ⟨[.imm .str, .imm .str], [.imm .bool], fun k x => span_ahead k x.1 x.2⟩
def span_ahead_parts : Parts := fun _ => none
def span_ahead_env : List (Nat × FSpec) := []
def span_Form_p6 : Nat → (List ((List UInt8) × List UInt8)) → (List ((List UInt8) × List UInt8)) → Int → Int → Option ((List ((List UInt8) × List UInt8)) ⊕ Bool)
  | 0, _, _, _, _ => none
  | k + 1, v0, v1, v2, v3 => (bif (decide (v3 < v2)) then ((at? v1 v3).bind fun e1 => ((span_may k e1).bind fun r2 => (bif (!r2) then some (.inr false) else (bif (decide (v3 > 0)) then ((at? v0 (IntKind.wrap .i64 (v3 - 1))).bind fun e3 => ((span_ahead k e3.2 e1.1).bind fun r4 => (bif (!r4) then some (.inr false) else span_Form_p6 k v0 v1 v2 (IntKind.wrap .i64 (v3 + 1))))) else span_Form_p6 k v0 v1 v2 (IntKind.wrap .i64 (v3 + 1)))))) else some (.inl v0))
def span_Form_u6 : Part := ⟨⟨[], [.val 0 (.slice (.pair .str .str)), .val 5 (.slice (.pair .str .str)), .val 6 (.int .i64), .val 7 (.int .i64)]⟩, [(.exit 0, ⟨[], [.val 0 (.slice (.pair .str .str))]⟩), (.ret, ⟨[], [.val 2 .bool]⟩)], fun k x => span_Form_p6 k x.1 x.2.1 x.2.2.1 x.2.2.2⟩
def span_Form (k : Nat) (x0 : List ((List UInt8) × List UInt8)) : Option Bool := ((span_Form_p6 k x0 x0 ((x0).length : Int) 0).bind fun o5 => Sum.elim (fun a6 => some (decide (((a6).length : Int) ≤ 64))) (fun b7 => some b7) o5)
def span_Form_spec : FSpec := ⟨[.imm (.slice (.pair .str .str))], [.imm .bool], fun k x => span_Form k x⟩
def span_Form_parts : Parts := fun n => cond (Nat.beq n 6) (some span_Form_u6) (none)
def span_Form_env : List (Nat × FSpec) := [(61, span_may_spec), (64, span_ahead_spec)]
def span_below (k : Nat) (x0 : List UInt8) (x1 : List UInt8) : Option Bool := (bif (!(x0 == [])) then (bif (x1 == []) then some true else some (strLess x0 x1)) else some false)
def span_below_spec : FSpec := ⟨[.imm .str, .imm .str], [.imm .bool], fun k x => span_below k x.1 x.2⟩
def span_below_parts : Parts := fun _ => none
def span_below_env : List (Nat × FSpec) := []
def slices_Grow_api_Span_api_Span (k : Nat) (x0 : Unit) (x1 : Int) : Option (List ((List UInt8) × List UInt8)) := (bif (decide (x1 < 0)) then none else (bif (decide ((IntKind.wrap .i64 (x1 - 0)) > 0)) then (bif decide (0 ≤ (IntKind.wrap .i64 (x1 - 0))) then (bif room (Int.toNat (IntKind.wrap .i64 (x1 - 0))) 32 then (bif (true && decide ((0 : Int) ≤ (((List.replicate (Int.toNat (IntKind.wrap .i64 (x1 - 0))) (([], []) : (List UInt8) × List UInt8))).length : Int))) then some (cut (List.replicate (Int.toNat (IntKind.wrap .i64 (x1 - 0))) (([], []) : (List UInt8) × List UInt8)) 0 0) else none) else none) else none) else some []))
def slices_Grow_api_Span_api_Span_spec : FSpec := ⟨[.nils, .imm (.int .i64)], [.own (.pair .str .str)], fun k x => slices_Grow_api_Span_api_Span k x.1 x.2⟩
def slices_Grow_api_Span_api_Span_parts : Parts := fun _ => none
def slices_Grow_api_Span_api_Span_env : List (Nat × FSpec) := []
def slices_Concat_api_Span_api_Span_p33 : Nat → (List (List ((List UInt8) × List UInt8))) → Int → Int → (List ((List UInt8) × List UInt8)) → Option ((List ((List UInt8) × List UInt8)))
  | 0, _, _, _, _ => none
  | k + 1, v0, v1, v2, v3 => (bif (decide (v2 < v1)) then ((at? v0 v2).bind fun e4 => (bif room ((v3 ++ e4)).length 32 then slices_Concat_api_Span_api_Span_p33 k v0 v1 (IntKind.wrap .i64 (v2 + 1)) (v3 ++ e4) else none)) else some v3)
def slices_Concat_api_Span_api_Span_u33 : Part := ⟨⟨[(6, .sref 500000)], [.val 25 (.slice (.slice (.pair .str .str))), .val 26 (.int .i64), .val 27 (.int .i64), .arr 500000 (.pair .str .str)]⟩, [(.exit 2, ⟨[(6, .sref 500000)], [.arr 500000 (.pair .str .str)]⟩)], fun k x => slices_Concat_api_Span_api_Span_p33 k x.1 x.2.1 x.2.2.1 x.2.2.2⟩
def slices_Concat_api_Span_api_Span_p8 : Nat → (List (List ((List UInt8) × List UInt8))) → Int → (List (List ((List UInt8) × List UInt8))) → Int → Int → Option (((List (List ((List UInt8) × List UInt8))) × Int))
  | 0, _, _, _, _, _ => none
  | k + 1, v0, v1, v2, v3, v4 => (bif (decide (v4 < v3)) then ((at? v2 v4).bind fun e1 => (bif (decide ((IntKind.wrap .i64 (v1 + ((e1).length : Int))) < 0)) then none else slices_Concat_api_Span_api_Span_p8 k v0 (IntKind.wrap .i64 (v1 + ((e1).length : Int))) v2 v3 (IntKind.wrap .i64 (v4 + 1)))) else some (v0, v1))
def slices_Concat_api_Span_api_Span_u8 : Part := ⟨⟨[], [.val 0 (.slice (.slice (.pair .str .str))), .val 3 (.int .i64), .val 9 (.slice (.slice (.pair .str .str))), .val 10 (.int .i64), .val 11 (.int .i64)]⟩, [(.exit 0, ⟨[], [.val 0 (.slice (.slice (.pair .str .str))), .val 3 (.int .i64)]⟩)], fun k x => slices_Concat_api_Span_api_Span_p8 k x.1 x.2.1 x.2.2.1 x.2.2.2.1 x.2.2.2.2⟩
def slices_Concat_api_Span_api_Span (k : Nat) (x0 : List (List ((List UInt8) × List UInt8))) : Option (List ((List UInt8) × List UInt8)) := ((slices_Concat_api_Span_api_Span_p8 k x0 0 x0 ((x0).length : Int) 0).bind fun o2 => ((slices_Grow_api_Span_api_Span k () o2.2).bind fun r3 => ((slices_Concat_api_Span_api_Span_p33 k o2.1 ((o2.1).length : Int) 0 r3).bind fun o5 => some o5)))
def slices_Concat_api_Span_api_Span_spec : FSpec := ⟨[.imm (.slice (.slice (.pair .str .str)))], [.own (.pair .str .str)], fun k x => slices_Concat_api_Span_api_Span k x⟩
def slices_Concat_api_Span_api_Span_parts : Parts := fun n => cond (Nat.beq n 33) (some slices_Concat_api_Span_api_Span_u33) (cond (Nat.beq n 8) (some slices_Concat_api_Span_api_Span_u8) (none))
def slices_Concat_api_Span_api_Span_env : List (Nat × FSpec) := [(81, slices_Grow_api_Span_api_Span_spec)]
def span_told (k : Nat) (x0 : List ((List UInt8) × List UInt8)) : Option ((List ((List UInt8) × List UInt8)) × Int) := (bif (decide (((x0).length : Int) > 64)) then some ([], 2) else some (x0, 0))
def span_told_spec : FSpec := ⟨[.imm (.slice (.pair .str .str))], [.imm (.slice (.pair .str .str)), .imm (.int .i64)], fun k x => span_told k x⟩
def span_told_parts : Parts := fun _ => none
def span_told_env : List (Nat × FSpec) := []
def span_Add_p16 : Nat → (List ((List UInt8) × List UInt8)) → Int → Int → ((List UInt8) × List UInt8) → (List ((List UInt8) × List UInt8)) → (List ((List UInt8) × List UInt8)) → Option ((((List UInt8) × List UInt8) × (List ((List UInt8) × List UInt8)) × List ((List UInt8) × List UInt8)))
  | 0, _, _, _, _, _, _ => none
  | k + 1, v0, v1, v2, v3, v4, v5 => (bif (decide (v2 < v1)) then ((at? v0 v2).bind fun e3 => ((span_ahead k e3.2 v3.1).bind fun r4 => (bif r4 then (bif room ((v4 ++ [e3])).length 32 then span_Add_p16 k v0 v1 (IntKind.wrap .i64 (v2 + 1)) v3 (v4 ++ [e3]) v5 else none) else ((span_ahead k v3.2 e3.1).bind fun r5 => (bif r5 then (bif room ((v5 ++ [e3])).length 32 then span_Add_p16 k v0 v1 (IntKind.wrap .i64 (v2 + 1)) v3 v4 (v5 ++ [e3]) else none) else ((span_below k v3.2 e3.2).bind fun r6 => (bif r6 then span_Add_p16 k v0 v1 (IntKind.wrap .i64 (v2 + 1)) ((strMin v3.1 e3.1), e3.2) v4 v5 else span_Add_p16 k v0 v1 (IntKind.wrap .i64 (v2 + 1)) ((strMin v3.1 e3.1), v3.2) v4 v5))))))) else some (v3, v4, v5))
def span_Add_u16 : Part := ⟨⟨[(3, .ptr 500000 0), (6, .sref 500001), (7, .sref 500002)], [.val 18 (.slice (.pair .str .str)), .val 19 (.int .i64), .val 20 (.int .i64), .cells 500000 [.dyn .str, .dyn .str], .arr 500001 (.pair .str .str), .arr 500002 (.pair .str .str)]⟩, [(.exit 0, ⟨[(3, .ptr 500000 0), (6, .sref 500001), (7, .sref 500002)], [.cells 500000 [.dyn .str, .dyn .str], .arr 500001 (.pair .str .str), .arr 500002 (.pair .str .str)]⟩)], fun k x => span_Add_p16 k x.1 x.2.1 x.2.2.1 x.2.2.2.1 x.2.2.2.2.1 x.2.2.2.2.2⟩
def span_Add (k : Nat) (x0 : List ((List UInt8) × List UInt8)) (x1 : (List UInt8) × List UInt8) : Option ((List ((List UInt8) × List UInt8)) × Int) := ((span_Form k x0).bind fun r1 => (bif (!r1) then some ([], 1) else ((span_may k x1).bind fun r2 => (bif (!r2) then some ([], 1) else ((span_Add_p16 k x0 ((x0).length : Int) 0 x1 [] []).bind fun o7 => ((slices_Concat_api_Span_api_Span k ([o7.2.1, [o7.1], o7.2.2])).bind fun r8 => ((span_told k r8).bind fun r9 => some r9)))))))
def span_Add_spec : FSpec := ⟨[.imm (.slice (.pair .str .str)), .agg (.pair .str .str)], [.imm (.slice (.pair .str .str)), .imm (.int .i64)], fun k x => span_Add k x.1 x.2⟩
def span_Add_parts : Parts := fun n => cond (Nat.beq n 16) (some span_Add_u16) (none)
def span_Add_env : List (Nat × FSpec) := [(63, span_Form_spec), (61, span_may_spec), (64, span_ahead_spec), (65, span_below_spec), (67, slices_Concat_api_Span_api_Span_spec), (66, span_told_spec)]
def chart_Owned_p16 : Nat → (List ((List UInt8) × List UInt8)) → Int → (List (((List UInt8) × List UInt8) × Int × Int)) → Int → Int → Option ((List ((List UInt8) × List UInt8)))
  | 0, _, _, _, _, _ => none
  | k + 1, v0, v1, v2, v3, v4 => (bif (decide (v4 < v3)) then ((at? v2 v4).bind fun e2 => (bif (e2.2.1 == v1) then ((span_Add k v0 e2.1).bind fun r3 => chart_Owned_p16 k r3.1 v1 v2 v3 (IntKind.wrap .i64 (v4 + 1))) else chart_Owned_p16 k v0 v1 v2 v3 (IntKind.wrap .i64 (v4 + 1)))) else some v0)
def chart_Owned_u16 : Part := ⟨⟨[], [.val 5 (.slice (.pair .str .str)), .val 1 (.int .i64), .val 11 (.slice (.pair (.pair .str .str) (.pair (.int .i64) (.int .u64)))), .val 12 (.int .i64), .val 13 (.int .i64)]⟩, [(.exit 0, ⟨[], [.val 5 (.slice (.pair .str .str))]⟩)], fun k x => chart_Owned_p16 k x.1 x.2.1 x.2.2.1 x.2.2.2.1 x.2.2.2.2⟩
def chart_Owned (k : Nat) (x0 : List (((List UInt8) × List UInt8) × Int × Int)) (x1 : Int) : Option (List ((List UInt8) × List UInt8)) := ((chart_Check k x0).bind fun r1 => (bif (r1 != 0) then some [] else ((chart_Owned_p16 k [] x1 x0 ((x0).length : Int) 0).bind fun o4 => some o4)))
def chart_Owned_spec : FSpec := ⟨[.imm (.slice (.pair (.pair .str .str) (.pair (.int .i64) (.int .u64)))), .imm (.int .i64)], [.imm (.slice (.pair .str .str))], fun k x => chart_Owned k x.1 x.2⟩
def chart_Owned_parts : Parts := fun n => cond (Nat.beq n 16) (some chart_Owned_u16) (none)
def chart_Owned_env : List (Nat × FSpec) := [(11, chart_Check_spec), (46, span_Add_spec)]
def ref10_May (k : Nat) (x0 : (List UInt8) × List UInt8) : Option Bool := (bif (decide (((x0.1).length : Int) ≤ 64)) then (bif (decide (((x0.2).length : Int) ≤ 64)) then (bif (x0.2 == []) then some true else some (strLess x0.1 x0.2)) else some false) else some false)
def ref10_May_spec : FSpec := ⟨[.agg (.pair .str .str)], [.imm .bool], fun k x => ref10_May k x⟩
def ref10_May_parts : Parts := fun _ => none
def ref10_May_env : List (Nat × FSpec) := []
def ref11_May_p14 : Nat → (List (((List UInt8) × List UInt8) × Int × Int)) → Int → Option (Unit ⊕ Bool)
  | 0, _, _ => none
  | k + 1, v0, v1 => (bif (decide (v1 < ((v0).length : Int))) then ((at? v0 v1).bind fun e3 => ((ref10_May k e3.1).bind fun r4 => (bif (!r4) then some (.inr false) else (bif (decide (e3.2.1 < 1)) then some (.inr false) else (bif (decide (e3.2.1 > 16)) then some (.inr false) else (bif (decide (e3.2.2 < 1)) then some (.inr false) else (bif (decide (e3.2.2 > 4611686018427387904)) then some (.inr false) else (bif (decide (v1 > 0)) then (bif (e3.1.1 == []) then some (.inr false) else ((at? v0 (IntKind.wrap .i64 (v1 - 1))).bind fun e5 => (bif (!(e3.1.1 == e5.1.2)) then some (.inr false) else ref11_May_p14 k v0 (IntKind.wrap .i64 (v1 + 1))))) else ref11_May_p14 k v0 (IntKind.wrap .i64 (v1 + 1)))))))))) else some (.inl ()))
def ref11_May_u14 : Part := ⟨⟨[], [.val 0 (.slice (.pair (.pair .str .str) (.pair (.int .i64) (.int .u64)))), .val 3 (.int .i64)]⟩, [(.exit 0, ⟨[], []⟩), (.ret, ⟨[], [.val 2 .bool]⟩)], fun k x => ref11_May_p14 k x.1 x.2⟩
def ref11_May (k : Nat) (x0 : List (((List UInt8) × List UInt8) × Int × Int)) : Option Bool := (bif (decide (((x0).length : Int) < 1)) then some false else (bif (decide (((x0).length : Int) > 64)) then some false else ((at? x0 0).bind fun e1 => (bif (!(e1.1.1 == [])) then some false else ((at? x0 (IntKind.wrap .i64 (((x0).length : Int) - 1))).bind fun e2 => (bif (!(e2.1.2 == [])) then some false else ((ref11_May_p14 k x0 0).bind fun o6 => Sum.elim (fun a7 => some true) (fun b8 => some b8) o6)))))))
def ref11_May_spec : FSpec := ⟨[.imm (.slice (.pair (.pair .str .str) (.pair (.int .i64) (.int .u64))))], [.imm .bool], fun k x => ref11_May k x⟩
def ref11_May_parts : Parts := fun n => cond (Nat.beq n 14) (some ref11_May_u14) (none)
def ref11_May_env : List (Nat × FSpec) := [(41, ref10_May_spec)]
def ref11_Owned_p8 : Nat → (List (((List UInt8) × List UInt8) × Int × Int)) → Int → Int → (List ((List UInt8) × List UInt8)) → Option ((List ((List UInt8) × List UInt8)))
  | 0, _, _, _, _ => none
  | k + 1, v0, v1, v2, v3 => (bif (decide (v2 < ((v0).length : Int))) then ((ref11_May k v0).bind fun r1 => (bif r1 then ((at? v0 v2).bind fun e2 => (bif (e2.2.1 != v1) then ref11_Owned_p8 k v0 v1 (IntKind.wrap .i64 (v2 + 1)) v3 else (bif (decide ((IntKind.wrap .i64 (((v3).length : Int) - 1)) ≥ 0)) then (bif (decide (0 ≤ (IntKind.wrap .i64 (((v3).length : Int) - 1))) && decide ((IntKind.wrap .i64 (((v3).length : Int) - 1)) < (v3).length)) then ((v3[Int.toNat (IntKind.wrap .i64 (((v3).length : Int) - 1))]?).bind fun x3 => ((at? v0 v2).bind fun e4 => (bif (x3.2 == e4.1.1) then ((at? v0 v2).bind fun e5 => (bif (decide (0 ≤ (IntKind.wrap .i64 (((v3).length : Int) - 1))) && decide ((IntKind.wrap .i64 (((v3).length : Int) - 1)) < (v3).length)) then ((v3[(Int.toNat (IntKind.wrap .i64 (((v3).length : Int) - 1)))]?).bind fun x6 => ref11_Owned_p8 k v0 v1 (IntKind.wrap .i64 (v2 + 1)) (v3.set (Int.toNat (IntKind.wrap .i64 (((v3).length : Int) - 1))) (x6.1, e5.1.2))) else none)) else ((at? v0 v2).bind fun e7 => (bif room ((v3 ++ [e7.1])).length 32 then ref11_Owned_p8 k v0 v1 (IntKind.wrap .i64 (v2 + 1)) (v3 ++ [e7.1]) else none))))) else none) else ((at? v0 v2).bind fun e8 => (bif room ((v3 ++ [e8.1])).length 32 then ref11_Owned_p8 k v0 v1 (IntKind.wrap .i64 (v2 + 1)) (v3 ++ [e8.1]) else none))))) else some v3)) else some v3)
def ref11_Owned_u8 : Part := ⟨⟨[(5, .sref 500000)], [.val 0 (.slice (.pair (.pair .str .str) (.pair (.int .i64) (.int .u64)))), .val 1 (.int .i64), .val 6 (.int .i64), .arr 500000 (.pair .str .str)]⟩, [(.exit 0, ⟨[(5, .sref 500000)], [.arr 500000 (.pair .str .str)]⟩)], fun k x => ref11_Owned_p8 k x.1 x.2.1 x.2.2.1 x.2.2.2⟩
def ref11_Owned (k : Nat) (x0 : List (((List UInt8) × List UInt8) × Int × Int)) (x1 : Int) : Option (List ((List UInt8) × List UInt8)) := ((ref11_Owned_p8 k x0 x1 0 []).bind fun o9 => some o9)
def ref11_Owned_spec : FSpec := ⟨[.imm (.slice (.pair (.pair .str .str) (.pair (.int .i64) (.int .u64)))), .imm (.int .i64)], [.own (.pair .str .str)], fun k x => ref11_Owned k x.1 x.2⟩
def ref11_Owned_parts : Parts := fun n => cond (Nat.beq n 8) (some ref11_Owned_u8) (none)
def ref11_Owned_env : List (Nat × FSpec) := [(12, ref11_May_spec)]
def ref10_Same_p14 : Nat → (List ((List UInt8) × List UInt8)) → (List ((List UInt8) × List UInt8)) → Int → Option (Unit ⊕ Bool)
  | 0, _, _, _ => none
  | k + 1, v0, v1, v2 => (bif (decide (v2 < ((v0).length : Int))) then ((at? v0 v2).bind fun e1 => ((at? v1 v2).bind fun e2 => (bif (!(T.eqb (.pair .str .str) e1 e2)) then some (.inr false) else ref10_Same_p14 k v0 v1 (IntKind.wrap .i64 (v2 + 1))))) else some (.inl ()))
def ref10_Same_u14 : Part := ⟨⟨[], [.val 0 (.slice (.pair .str .str)), .val 1 (.slice (.pair .str .str)), .val 5 (.int .i64)]⟩, [(.exit 0, ⟨[], []⟩), (.ret, ⟨[], [.val 4 .bool]⟩)], fun k x => ref10_Same_p14 k x.1 x.2.1 x.2.2⟩
def ref10_Same (k : Nat) (x0 : List ((List UInt8) × List UInt8)) (x1 : List ((List UInt8) × List UInt8)) : Option Bool := (bif (((x0).length : Int) != ((x1).length : Int)) then some false else ((ref10_Same_p14 k x0 x1 0).bind fun o3 => Sum.elim (fun a4 => some true) (fun b5 => some b5) o3))
def ref10_Same_spec : FSpec := ⟨[.imm (.slice (.pair .str .str)), .imm (.slice (.pair .str .str))], [.imm .bool], fun k x => ref10_Same k x.1 x.2⟩
def ref10_Same_parts : Parts := fun n => cond (Nat.beq n 14) (some ref10_Same_u14) (none)
def ref10_Same_env : List (Nat × FSpec) := []
def ref10_Has (k : Nat) (x0 : (List UInt8) × List UInt8) (x1 : List UInt8) : Option Bool := (bif (strLess x0.1 x1 || x0.1 == x1) then (bif (x0.2 == []) then some true else some (strLess x1 x0.2)) else some false)
def ref10_Has_spec : FSpec := ⟨[.agg (.pair .str .str), .imm .str], [.imm .bool], fun k x => ref10_Has k x.1 x.2⟩
def ref10_Has_parts : Parts := fun _ => none
def ref10_Has_env : List (Nat × FSpec) := []
def ref11_Find_p14 : Nat → (List (((List UInt8) × List UInt8) × Int × Int)) → (List UInt8) → Int → Option (Unit ⊕ Int)
  | 0, _, _, _ => none
  | k + 1, v0, v1, v2 => (bif (decide (v2 < ((v0).length : Int))) then ((at? v0 v2).bind fun e2 => ((ref10_Has k e2.1 v1).bind fun r3 => (bif r3 then some (.inr v2) else ref11_Find_p14 k v0 v1 (IntKind.wrap .i64 (v2 + 1))))) else some (.inl ()))
def ref11_Find_u14 : Part := ⟨⟨[], [.val 0 (.slice (.pair (.pair .str .str) (.pair (.int .i64) (.int .u64)))), .val 1 .str, .val 5 (.int .i64)]⟩, [(.exit 0, ⟨[], []⟩), (.ret, ⟨[], [.val 4 (.int .i64)]⟩)], fun k x => ref11_Find_p14 k x.1 x.2.1 x.2.2⟩
def ref11_Find (k : Nat) (x0 : List (((List UInt8) × List UInt8) × Int × Int)) (x1 : List UInt8) : Option Int := ((ref11_May k x0).bind fun r1 => (bif (!r1) then some (-1) else (bif (decide (((x1).length : Int) > 64)) then some (-1) else ((ref11_Find_p14 k x0 x1 0).bind fun o4 => Sum.elim (fun a5 => some (-1)) (fun b6 => some b6) o4))))
def ref11_Find_spec : FSpec := ⟨[.imm (.slice (.pair (.pair .str .str) (.pair (.int .i64) (.int .u64)))), .imm .str], [.imm (.int .i64)], fun k x => ref11_Find k x.1 x.2⟩
def ref11_Find_parts : Parts := fun n => cond (Nat.beq n 14) (some ref11_Find_u14) (none)
def ref11_Find_env : List (Nat × FSpec) := [(12, ref11_May_spec), (25, ref10_Has_spec)]
def ref11_Groups_p20 : Nat → (List (((List UInt8) × List UInt8) × Int × Int)) → (List (List UInt8)) → Int → Int → (List Int) → Option (((List (((List UInt8) × List UInt8) × Int × Int)) × (List (List UInt8)) × Int × List Int))
  | 0, _, _, _, _, _ => none
  | k + 1, v0, v1, v2, v3, v4 => (bif (decide (v3 < ((v1).length : Int))) then ((at? v1 v3).bind fun e1 => ((ref11_Find k v0 e1).bind fun r2 => ((at? v0 r2).bind fun e3 => (bif (e3.2.1 == v2) then (bif room ((v4 ++ [v2])).length 8 then some (v0, v1, v2, (v4 ++ [v2])) else none) else ref11_Groups_p20 k v0 v1 v2 (IntKind.wrap .i64 (v3 + 1)) v4)))) else some (v0, v1, v2, v4))
def ref11_Groups_u20 : Part := ⟨⟨[(5, .sref 500000)], [.val 0 (.slice (.pair (.pair .str .str) (.pair (.int .i64) (.int .u64)))), .val 1 (.slice .str), .val 6 (.int .i64), .val 7 (.int .i64), .arr 500000 (.int .i64)]⟩, [(.exit 2, ⟨[(5, .sref 500000)], [.val 0 (.slice (.pair (.pair .str .str) (.pair (.int .i64) (.int .u64)))), .val 1 (.slice .str), .val 6 (.int .i64), .arr 500000 (.int .i64)]⟩)], fun k x => ref11_Groups_p20 k x.1 x.2.1 x.2.2.1 x.2.2.2.1 x.2.2.2.2⟩
def ref11_Groups_p8 : Nat → (List (((List UInt8) × List UInt8) × Int × Int)) → (List (List UInt8)) → Int → (List Int) → Option ((List Int))
  | 0, _, _, _, _ => none
  | k + 1, v0, v1, v2, v3 => (bif (decide (v2 ≤ 16)) then ((ref11_Groups_p20 k v0 v1 v2 0 v3).bind fun o4 => ref11_Groups_p8 k o4.1 o4.2.1 (IntKind.wrap .i64 (o4.2.2.1 + 1)) o4.2.2.2) else some v3)
def ref11_Groups_u8 : Part := ⟨⟨[(5, .sref 500000)], [.val 0 (.slice (.pair (.pair .str .str) (.pair (.int .i64) (.int .u64)))), .val 1 (.slice .str), .val 6 (.int .i64), .arr 500000 (.int .i64)]⟩, [(.exit 0, ⟨[(5, .sref 500000)], [.arr 500000 (.int .i64)]⟩)], fun k x => ref11_Groups_p8 k x.1 x.2.1 x.2.2.1 x.2.2.2⟩
def ref11_Groups (k : Nat) (x0 : List (((List UInt8) × List UInt8) × Int × Int)) (x1 : List (List UInt8)) : Option (List Int) := ((ref11_Groups_p8 k x0 x1 1 []).bind fun o5 => some o5)
def ref11_Groups_spec : FSpec := ⟨[.imm (.slice (.pair (.pair .str .str) (.pair (.int .i64) (.int .u64)))), .imm (.slice .str)], [.own (.int .i64)], fun k x => ref11_Groups k x.1 x.2⟩
def ref11_Groups_parts : Parts := fun n => cond (Nat.beq n 20) (some ref11_Groups_u20) (cond (Nat.beq n 8) (some ref11_Groups_u8) (none))
def ref11_Groups_env : List (Nat × FSpec) := [(10, ref11_Find_spec)]
def law11_ChartGroups_p59 : Nat → Int → (List Int) → (List Int) → Option (Unit ⊕ Bool)
  | 0, _, _, _ => none
  | k + 1, v0, v1, v2 => (bif (decide (v0 < ((v2).length : Int))) then (bif (decide (0 ≤ v0) && decide (v0 < (v1).length)) then ((v1[Int.toNat v0]?).bind fun x11 => (bif (decide (0 ≤ v0) && decide (v0 < (v2).length)) then ((v2[Int.toNat v0]?).bind fun x12 => (bif (x11 != x12) then some (.inr false) else law11_ChartGroups_p59 k (IntKind.wrap .i64 (v0 + 1)) v1 v2)) else none)) else none) else some (.inl ()))
def law11_ChartGroups_u59 : Part := ⟨⟨[(7, .sref 500000), (11, .sref 500001)], [.val 12 (.int .i64), .arr 500000 (.int .i64), .arr 500001 (.int .i64)]⟩, [(.exit 2, ⟨[], []⟩), (.ret, ⟨[], [.val 6 .bool]⟩)], fun k x => law11_ChartGroups_p59 k x.1 x.2.1 x.2.2⟩
def law11_ChartGroups_p26 : Nat → (List (((List UInt8) × List UInt8) × Int × Int)) → (List (List UInt8)) → Int → Bool → Int → (List Int) → Option (((List (((List UInt8) × List UInt8) × Int × Int)) × (List (List UInt8)) × Int × Bool × List Int))
  | 0, _, _, _, _, _, _ => none
  | k + 1, v0, v1, v2, v3, v4, v5 => (bif (decide (v4 < ((v1).length : Int))) then (bif v3 then ((at? v1 v4).bind fun e7 => law11_ChartGroups_p26 k v0 v1 v2 (decide (((e7).length : Int) ≤ 64)) (IntKind.wrap .i64 (v4 + 1)) v5) else law11_ChartGroups_p26 k v0 v1 v2 false (IntKind.wrap .i64 (v4 + 1)) v5) else some (v0, v1, v2, v3, v5))
def law11_ChartGroups_u26 : Part := ⟨⟨[(7, .sref 500000)], [.val 0 (.slice (.pair (.pair .str .str) (.pair (.int .i64) (.int .u64)))), .val 1 (.slice .str), .val 8 (.int .i64), .val 9 .bool, .val 10 (.int .i64), .arr 500000 (.int .i64)]⟩, [(.exit 0, ⟨[(7, .sref 500000)], [.val 0 (.slice (.pair (.pair .str .str) (.pair (.int .i64) (.int .u64)))), .val 1 (.slice .str), .val 8 (.int .i64), .val 9 .bool, .arr 500000 (.int .i64)]⟩)], fun k x => law11_ChartGroups_p26 k x.1 x.2.1 x.2.2.1 x.2.2.2.1 x.2.2.2.2.1 x.2.2.2.2.2⟩
def law11_ChartGroups (k : Nat) (x0 : List (((List UInt8) × List UInt8) × Int × Int)) (x1 : List (List UInt8)) (x2 : Int) : Option Bool := (bif (decide (((x1).length : Int) > 100)) then ((law11_awake k ).bind fun r1 => some r1) else ((chart_Groups k x0 x1).bind fun r2 => ((chart_Owned k x0 x2).bind fun r3 => ((ref11_Owned k x0 x2).bind fun r4 => ((ref10_Same k r3 r4).bind fun r5 => (bif (!r5) then some false else ((ref11_May k x0).bind fun r6 => ((law11_ChartGroups_p26 k x0 x1 r2.2 r6 0 r2.1).bind fun o8 => (bif (!o8.2.2.2.1) then (bif (o8.2.2.1 == 1) then (bif (((o8.2.2.2.2).length : Int) == 0) then ((law11_awake k ).bind fun r9 => some r9) else some false) else some false) else ((ref11_Groups k o8.1 o8.2.1).bind fun r10 => (bif (o8.2.2.1 != 0) then some false else (bif (((o8.2.2.2.2).length : Int) != ((r10).length : Int)) then some false else ((law11_ChartGroups_p59 k 0 o8.2.2.2.2 r10).bind fun o13 => Sum.elim (fun a14 => ((law11_awake k ).bind fun r16 => some r16)) (fun b15 => some b15) o13)))))))))))))
def law11_ChartGroups_spec : FSpec := ⟨[.imm (.slice (.pair (.pair .str .str) (.pair (.int .i64) (.int .u64)))), .imm (.slice .str), .imm (.int .i64)], [.imm .bool], fun k x => law11_ChartGroups k x.1 x.2.1 x.2.2⟩
def law11_ChartGroups_parts : Parts := fun n => cond (Nat.beq n 59) (some law11_ChartGroups_u59) (cond (Nat.beq n 26) (some law11_ChartGroups_u26) (none))
def law11_ChartGroups_env : List (Nat × FSpec) := [(16, law11_awake_spec), (32, chart_Groups_spec), (27, chart_Owned_spec), (34, ref11_Owned_spec), (33, ref10_Same_spec), (12, ref11_May_spec), (35, ref11_Groups_spec)]
end Go.Proofs.Ytdmegcnkfngojaa.gg
