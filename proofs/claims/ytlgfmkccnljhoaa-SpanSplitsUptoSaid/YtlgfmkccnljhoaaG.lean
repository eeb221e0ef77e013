/- What the functions compute: printed by a program of our own. -/
import Derived.Test.YtlgfmkccnljhoaaL2
import Derived.Test.YtlgfmkccnljhoaaC35
open Go Go.GG
set_option linter.unusedVariables false
namespace Go.Proofs.Ytlgfmkccnljhoaa.gg
def tab : Tab := [(3, ⟨.int .i64, 1, 8, [.int .i64 0], some (.int .i64), false⟩),
  (4, ⟨.bool, 1, 1, [.bool false], some .bool, false⟩),
  (9, ⟨.str, 1, 16, [.string ⟨#[]⟩], some .str, false⟩),
  (23, ⟨.struct [(9, 0), (9, 1)], 2, 32, [.string ⟨#[]⟩, .string ⟨#[]⟩], some (.pair .str .str), true⟩),
  (24, ⟨.int .i64, 1, 8, [.int .i64 0], some (.int .i64), false⟩),
  (31, ⟨.slice 23, 1, 24, [.slice none 0 0], some (.slice (.pair .str .str)), false⟩),
  (54, ⟨.slice 31, 1, 24, [.slice none 0 0], some (.slice (.slice (.pair .str .str))), false⟩)]
def span_Check (k : Nat) (x0 : (List UInt8) × List UInt8) : Option Int := (bif (decide (((x0.1).length : Int) > 64)) then some 1 else (bif (decide (((x0.2).length : Int) > 64)) then some 1 else (bif (!(x0.2 == [])) then (bif (strLess x0.2 x0.1 || x0.2 == x0.1) then some 1 else some 0) else some 0)))
def span_Check_spec : FSpec := ⟨[.agg (.pair .str .str)], [.imm (.int .i64)], fun k x => span_Check k x⟩
def span_Check_parts : Parts := fun _ => none
def span_Check_env : List (Nat × FSpec) := []
def span_may (k : Nat) (x0 : (List UInt8) × List UInt8) : Option Bool := ((span_Check k x0).bind fun r1 => some (r1 == 0))
def span_may_spec : FSpec := ⟨[.agg (.pair .str .str)], [.imm .bool], fun k x => span_may k x⟩
def span_may_parts : Parts := fun _ => none
def span_may_env : List (Nat × FSpec) := [(21, span_Check_spec)]
def span_Has (k : Nat) (x0 : (List UInt8) × List UInt8) (x1 : List UInt8) : Option Bool := ((span_may k x0).bind fun r1 => (bif r1 then (bif (decide (((x1).length : Int) ≤ 64)) then (bif (!strLess x1 x0.1) then (bif (x0.2 == []) then some true else some (strLess x1 x0.2)) else some false) else some false) else some false))
def span_Has_spec : FSpec := ⟨[.agg (.pair .str .str), .imm .str], [.imm .bool], fun k x => span_Has k x.1 x.2⟩
def span_Has_parts : Parts := fun _ => none
def span_Has_env : List (Nat × FSpec) := [(26, span_may_spec)]
def span_Split (k : Nat) (x0 : (List UInt8) × List UInt8) (x1 : List UInt8) : Option (((List UInt8) × List UInt8) × ((List UInt8) × List UInt8) × Int) := ((span_may k x0).bind fun r1 => (bif (!r1) then some (([], []), ([], []), 1) else (bif (decide (((x1).length : Int) > 64)) then some (([], []), ([], []), 1) else ((span_Has k x0 x1).bind fun r2 => (bif (!r2) then some (([], []), ([], []), 10) else (bif (x1 == x0.1) then some (([], []), ([], []), 10) else some ((x0.1, x1), (x1, x0.2), 0)))))))
def span_Split_spec : FSpec := ⟨[.agg (.pair .str .str), .imm .str], [.agg (.pair .str .str), .agg (.pair .str .str), .imm (.int .i64)], fun k x => span_Split k x.1 x.2⟩
def span_Split_parts : Parts := fun _ => none
def span_Split_env : List (Nat × FSpec) := [(26, span_may_spec), (9, span_Has_spec)]
def ref10_May (k : Nat) (x0 : (List UInt8) × List UInt8) : Option Bool := (bif (decide (((x0.1).length : Int) ≤ 64)) then (bif (decide (((x0.2).length : Int) ≤ 64)) then (bif (x0.2 == []) then some true else some (strLess x0.1 x0.2)) else some false) else some false)
def ref10_May_spec : FSpec := ⟨[.agg (.pair .str .str)], [.imm .bool], fun k x => ref10_May k x⟩
def ref10_May_parts : Parts := fun _ => none
def ref10_May_env : List (Nat × FSpec) := []
def ref10_Has (k : Nat) (x0 : (List UInt8) × List UInt8) (x1 : List UInt8) : Option Bool := (bif (strLess x0.1 x1 || x0.1 == x1) then (bif (x0.2 == []) then some true else some (strLess x1 x0.2)) else some false)
def ref10_Has_spec : FSpec := ⟨[.agg (.pair .str .str), .imm .str], [.imm .bool], fun k x => ref10_Has k x.1 x.2⟩
def ref10_Has_parts : Parts := fun _ => none
def ref10_Has_env : List (Nat × FSpec) := []
def span_ahead (k : Nat) (x0 : List UInt8) (x1 : List UInt8) : Option Bool := (bif (!(x0 == [])) then some (strLess x0 x1) else some false)
def span_ahead_spec : FSpec := ⟨[.imm .str, .imm .str], [.imm .bool], fun k x => span_ahead k x.1 x.2⟩
def span_ahead_parts : Parts := fun _ => none
def span_ahead_env : List (Nat × FSpec) := []
def span_Form_p6 : Nat → (List ((List UInt8) × List UInt8)) → (List ((List UInt8) × List UInt8)) → Int → Int → Option ((List ((List UInt8) × List UInt8)) ⊕ Bool)
  | 0, _, _, _, _ => none
  | k + 1, v0, v1, v2, v3 => (bif (decide (v3 < v2)) then ((at? v1 v3).bind fun e1 => ((span_may k e1).bind fun r2 => (bif (!r2) then some (.inr false) else (bif (decide (v3 > 0)) then ((at? v0 (IntKind.wrap .i64 (v3 - 1))).bind fun e3 => ((span_ahead k e3.2 e1.1).bind fun r4 => (bif (!r4) then some (.inr false) else span_Form_p6 k v0 v1 v2 (IntKind.wrap .i64 (v3 + 1))))) else span_Form_p6 k v0 v1 v2 (IntKind.wrap .i64 (v3 + 1)))))) else some (.inl v0))
def span_Form_u6 : Part := ⟨⟨[], [.val 0 (.slice (.pair .str .str)), .val 5 (.slice (.pair .str .str)), .val 6 (.int .i64), .val 7 (.int .i64)]⟩, [(.exit 0, ⟨[], [.val 0 (.slice (.pair .str .str))]⟩), (.ret, ⟨[], [.val 2 .bool]⟩)], fun k x => span_Form_p6 k x.1 x.2.1 x.2.2.1 x.2.2.2⟩
def span_Form (k : Nat) (x0 : List ((List UInt8) × List UInt8)) : Option Bool := ((span_Form_p6 k x0 x0 ((x0).length : Int) 0).bind fun o5 => Sum.elim (fun a6 => some (decide (((a6).length : Int) ≤ 64))) (fun b7 => some b7) o5)
def span_Form_spec : FSpec := ⟨[.imm (.slice (.pair .str .str))], [.imm .bool], fun k x => span_Form k x⟩
def span_Form_parts : Parts := fun n => cond (Nat.beq n 6) (some span_Form_u6) (none)
def span_Form_env : List (Nat × FSpec) := [(26, span_may_spec), (27, span_ahead_spec)]
def span_below (k : Nat) (x0 : List UInt8) (x1 : List UInt8) : Option Bool := (bif (!(x0 == [])) then (bif (x1 == []) then some true else some (strLess x0 x1)) else some false)
def span_below_spec : FSpec := ⟨[.imm .str, .imm .str], [.imm .bool], fun k x => span_below k x.1 x.2⟩
def span_below_parts : Parts := fun _ => none
def span_below_env : List (Nat × FSpec) := []
def slices_Grow_api_Span_api_Span (k : Nat) (x0 : Unit) (x1 : Int) : Option (List ((List UInt8) × List UInt8)) := (bif (decide (x1 < 0)) then none else (bif (decide ((IntKind.wrap .i64 (x1 - 0)) > 0)) then (bif decide (0 ≤ (IntKind.wrap .i64 (x1 - 0))) then (bif room (Int.toNat (IntKind.wrap .i64 (x1 - 0))) 32 then (bif (true && decide ((0 : Int) ≤ (((List.replicate (Int.toNat (IntKind.wrap .i64 (x1 - 0))) (([], []) : (List UInt8) × List UInt8))).length : Int))) then some (cut (List.replicate (Int.toNat (IntKind.wrap .i64 (x1 - 0))) (([], []) : (List UInt8) × List UInt8)) 0 0) else none) else none) else none) else some []))
def slices_Grow_api_Span_api_Span_spec : FSpec := ⟨[.nils, .imm (.int .i64)], [.own (.pair .str .str)], fun k x => slices_Grow_api_Span_api_Span k x.1 x.2⟩
def slices_Grow_api_Span_api_Span_parts : Parts := fun _ => none
def slices_Grow_api_Span_api_Span_env : List (Nat × FSpec) := []
def slices_Concat_api_Span_api_Span_p33 : Nat → (List (List ((List UInt8) × List UInt8))) → Int → Int → (List ((List UInt8) × List UInt8)) → Option ((List ((List UInt8) × List UInt8)))
  | 0, _, _, _, _ => none
  | k + 1, v0, v1, v2, v3 => (bif (decide (v2 < v1)) then ((at? v0 v2).bind fun e4 => (bif room ((v3 ++ e4)).length 32 then slices_Concat_api_Span_api_Span_p33 k v0 v1 (IntKind.wrap .i64 (v2 + 1)) (v3 ++ e4) else none)) else some v3)
def slices_Concat_api_Span_api_Span_u33 : Part := ⟨⟨[(6, .sref 500000)], [.val 25 (.slice (.slice (.pair .str .str))), .val 26 (.int .i64), .val 27 (.int .i64), .arr 500000 (.pair .str .str)]⟩, [(.exit 2, ⟨[(6, .sref 500000)], [.arr 500000 (.pair .str .str)]⟩)], fun k x => slices_Concat_api_Span_api_Span_p33 k x.1 x.2.1 x.2.2.1 x.2.2.2⟩
def slices_Concat_api_Span_api_Span_p8 : Nat → (List (List ((List UInt8) × List UInt8))) → Int → (List (List ((List UInt8) × List UInt8))) → Int → Int → Option (((List (List ((List UInt8) × List UInt8))) × Int))
  | 0, _, _, _, _, _ => none
  | k + 1, v0, v1, v2, v3, v4 => (bif (decide (v4 < v3)) then ((at? v2 v4).bind fun e1 => (bif (decide ((IntKind.wrap .i64 (v1 + ((e1).length : Int))) < 0)) then none else slices_Concat_api_Span_api_Span_p8 k v0 (IntKind.wrap .i64 (v1 + ((e1).length : Int))) v2 v3 (IntKind.wrap .i64 (v4 + 1)))) else some (v0, v1))
def slices_Concat_api_Span_api_Span_u8 : Part := ⟨⟨[], [.val 0 (.slice (.slice (.pair .str .str))), .val 3 (.int .i64), .val 9 (.slice (.slice (.pair .str .str))), .val 10 (.int .i64), .val 11 (.int .i64)]⟩, [(.exit 0, ⟨[], [.val 0 (.slice (.slice (.pair .str .str))), .val 3 (.int .i64)]⟩)], fun k x => slices_Concat_api_Span_api_Span_p8 k x.1 x.2.1 x.2.2.1 x.2.2.2.1 x.2.2.2.2⟩
def slices_Concat_api_Span_api_Span (k : Nat) (x0 : List (List ((List UInt8) × List UInt8))) : Option (List ((List UInt8) × List UInt8)) := ((slices_Concat_api_Span_api_Span_p8 k x0 0 x0 ((x0).length : Int) 0).bind fun o2 => ((slices_Grow_api_Span_api_Span k () o2.2).bind fun r3 => ((slices_Concat_api_Span_api_Span_p33 k o2.1 ((o2.1).length : Int) 0 r3).bind fun o5 => some o5)))
def slices_Concat_api_Span_api_Span_spec : FSpec := ⟨[.imm (.slice (.slice (.pair .str .str)))], [.own (.pair .str .str)], fun k x => slices_Concat_api_Span_api_Span k x⟩
def slices_Concat_api_Span_api_Span_parts : Parts := fun n => cond (Nat.beq n 33) (some slices_Concat_api_Span_api_Span_u33) (cond (Nat.beq n 8) (some slices_Concat_api_Span_api_Span_u8) (none))
def slices_Concat_api_Span_api_Span_env : List (Nat × FSpec) := [(37, slices_Grow_api_Span_api_Span_spec)]
def span_told (k : Nat) (x0 : List ((List UInt8) × List UInt8)) : Option ((List ((List UInt8) × List UInt8)) × Int) := (bif (decide (((x0).length : Int) > 64)) then some ([], 2) else some (x0, 0))
def span_told_spec : FSpec := ⟨[.imm (.slice (.pair .str .str))], [.imm (.slice (.pair .str .str)), .imm (.int .i64)], fun k x => span_told k x⟩
def span_told_parts : Parts := fun _ => none
def span_told_env : List (Nat × FSpec) := []
def span_Add_p16 : Nat → (List ((List UInt8) × List UInt8)) → Int → Int → ((List UInt8) × List UInt8) → (List ((List UInt8) × List UInt8)) → (List ((List UInt8) × List UInt8)) → Option ((((List UInt8) × List UInt8) × (List ((List UInt8) × List UInt8)) × List ((List UInt8) × List UInt8)))
  | 0, _, _, _, _, _, _ => none
  | k + 1, v0, v1, v2, v3, v4, v5 => (bif (decide (v2 < v1)) then ((at? v0 v2).bind fun e3 => ((span_ahead k e3.2 v3.1).bind fun r4 => (bif r4 then (bif room ((v4 ++ [e3])).length 32 then span_Add_p16 k v0 v1 (IntKind.wrap .i64 (v2 + 1)) (v3.1, v3.2) (v4 ++ [e3]) v5 else none) else ((span_ahead k v3.2 e3.1).bind fun r5 => (bif r5 then (bif room ((v5 ++ [e3])).length 32 then span_Add_p16 k v0 v1 (IntKind.wrap .i64 (v2 + 1)) (v3.1, v3.2) v4 (v5 ++ [e3]) else none) else ((span_below k v3.2 e3.2).bind fun r6 => (bif r6 then span_Add_p16 k v0 v1 (IntKind.wrap .i64 (v2 + 1)) ((strMin v3.1 e3.1), e3.2) v4 v5 else span_Add_p16 k v0 v1 (IntKind.wrap .i64 (v2 + 1)) ((strMin v3.1 e3.1), v3.2) v4 v5))))))) else some ((v3.1, v3.2), v4, v5))
def span_Add_u16 : Part := ⟨⟨[(3, .ptr 500000 0), (6, .sref 500001), (7, .sref 500002)], [.val 18 (.slice (.pair .str .str)), .val 19 (.int .i64), .val 20 (.int .i64), .cells 500000 [.dyn .str, .dyn .str], .arr 500001 (.pair .str .str), .arr 500002 (.pair .str .str)]⟩, [(.exit 0, ⟨[(3, .ptr 500000 0), (6, .sref 500001), (7, .sref 500002)], [.cells 500000 [.dyn .str, .dyn .str], .arr 500001 (.pair .str .str), .arr 500002 (.pair .str .str)]⟩)], fun k x => span_Add_p16 k x.1 x.2.1 x.2.2.1 x.2.2.2.1 x.2.2.2.2.1 x.2.2.2.2.2⟩
def span_Add (k : Nat) (x0 : List ((List UInt8) × List UInt8)) (x1 : (List UInt8) × List UInt8) : Option ((List ((List UInt8) × List UInt8)) × Int) := ((span_Form k x0).bind fun r1 => (bif (!r1) then some ([], 1) else ((span_may k x1).bind fun r2 => (bif (!r2) then some ([], 1) else ((span_Add_p16 k x0 ((x0).length : Int) 0 (x1.1, x1.2) [] []).bind fun o7 => ((slices_Concat_api_Span_api_Span k ([o7.2.1, [o7.1], o7.2.2])).bind fun r8 => ((span_told k r8).bind fun r9 => some (r9.1, r9.2))))))))
def span_Add_spec : FSpec := ⟨[.imm (.slice (.pair .str .str)), .agg (.pair .str .str)], [.imm (.slice (.pair .str .str)), .imm (.int .i64)], fun k x => span_Add k x.1 x.2⟩
def span_Add_parts : Parts := fun n => cond (Nat.beq n 16) (some span_Add_u16) (none)
def span_Add_env : List (Nat × FSpec) := [(15, span_Form_spec), (26, span_may_spec), (27, span_ahead_spec), (28, span_below_spec), (30, slices_Concat_api_Span_api_Span_spec), (29, span_told_spec)]
def slices_IndexFunc_api_Span_api_Span_p6 : Nat → (List ((List UInt8) × List UInt8)) → ((List UInt8) × List UInt8 → Option Bool) → Int → Int → Option (Unit ⊕ Int)
  | 0, _, _, _, _ => none
  | k + 1, v0, v1, v2, v3 => (bif (decide (v3 < v2)) then ((at? v0 v3).bind fun e1 => ((v1 e1).bind fun z2 => (bif z2 then some (.inr v3) else slices_IndexFunc_api_Span_api_Span_p6 k v0 v1 v2 (IntKind.wrap .i64 (v3 + 1))))) else some (.inl ()))
def slices_IndexFunc_api_Span_api_Span_u6 : Part := ⟨⟨[], [.val 0 (.slice (.pair .str .str)), .fn 1 [⟨(.pair .str .str), true⟩] .bool, .val 7 (.int .i64), .val 8 (.int .i64)]⟩, [(.exit 0, ⟨[], []⟩), (.ret, ⟨[], [.val 4 (.int .i64)]⟩)], fun k x => slices_IndexFunc_api_Span_api_Span_p6 k x.1 x.2.1 x.2.2.1 x.2.2.2⟩
def slices_IndexFunc_api_Span_api_Span (k : Nat) (x0 : List ((List UInt8) × List UInt8)) (x1 : (List UInt8) × List UInt8 → Option Bool) : Option Int := ((slices_IndexFunc_api_Span_api_Span_p6 k x0 x1 ((x0).length : Int) 0).bind fun o3 => Sum.elim (fun a4 => some (-1)) (fun b5 => some b5) o3)
def slices_IndexFunc_api_Span_api_Span_spec : FSpec := ⟨[.imm (.slice (.pair .str .str)), .fn [⟨(.pair .str .str), true⟩] .bool], [.imm (.int .i64)], fun k x => slices_IndexFunc_api_Span_api_Span k x.1 x.2⟩
def slices_IndexFunc_api_Span_api_Span_parts : Parts := fun n => cond (Nat.beq n 6) (some slices_IndexFunc_api_Span_api_Span_u6) (none)
def slices_IndexFunc_api_Span_api_Span_env : List (Nat × FSpec) := []
def slices_ContainsFunc_api_Span_api_Span (k : Nat) (x0 : List ((List UInt8) × List UInt8)) (x1 : (List UInt8) × List UInt8 → Option Bool) : Option Bool := ((slices_IndexFunc_api_Span_api_Span k x0 x1).bind fun r1 => some (decide (r1 ≥ 0)))
def slices_ContainsFunc_api_Span_api_Span_spec : FSpec := ⟨[.imm (.slice (.pair .str .str)), .fn [⟨(.pair .str .str), true⟩] .bool], [.imm .bool], fun k x => slices_ContainsFunc_api_Span_api_Span k x.1 x.2⟩
def slices_ContainsFunc_api_Span_api_Span_parts : Parts := fun _ => none
def slices_ContainsFunc_api_Span_api_Span_env : List (Nat × FSpec) := [(39, slices_IndexFunc_api_Span_api_Span_spec)]
def span_In_1 (k : Nat) (x0 : (List UInt8) × List UInt8) (x1 : List UInt8) : Option Bool := ((span_Has k x0 x1).bind fun r1 => some r1)
def span_In_1_spec : FSpec := ⟨[.agg (.pair .str .str), .ro .str], [.imm .bool], fun k x => span_In_1 k x.1 x.2⟩
def span_In_1_parts : Parts := fun _ => none
def span_In_1_env : List (Nat × FSpec) := [(9, span_Has_spec)]
def span_In (k : Nat) (x0 : List ((List UInt8) × List UInt8)) (x1 : List UInt8) : Option Bool := ((span_Form k x0).bind fun r1 => (bif r1 then ((slices_ContainsFunc_api_Span_api_Span k x0 (fun y2 => ((span_In_1 k y2 x1).bind fun z => some z))).bind fun r3 => some r3) else some false))
def span_In_spec : FSpec := ⟨[.imm (.slice (.pair .str .str)), .imm .str], [.imm .bool], fun k x => span_In k x.1 x.2⟩
def span_In_parts : Parts := fun _ => none
def span_In_env : List (Nat × FSpec) := [(15, span_Form_spec), (34, slices_ContainsFunc_api_Span_api_Span_spec), (35, span_In_1_spec)]
def law10_awake (k : Nat) : Option Bool := ((span_Add k ([([97], [99])]) ([99], [101])).bind fun r1 => (bif (r1.2 == 0) then (bif (((r1.1).length : Int) == 1) then ((at? r1.1 0).bind fun e2 => (bif (T.eqb (.pair .str .str) e2 ([97], [101])) then ((span_In k r1.1 [100]).bind fun r3 => (bif r3 then ((span_Check k ([98], [97])).bind fun r4 => some (r4 == 1)) else some false)) else some false)) else some false) else some false))
def law10_awake_spec : FSpec := ⟨[], [.imm .bool], fun k x => law10_awake k⟩
def law10_awake_parts : Parts := fun _ => none
def law10_awake_env : List (Nat × FSpec) := [(13, span_Add_spec), (22, span_In_spec), (21, span_Check_spec)]
def law10_SpanSplits_p7 (k : Nat) (v0 : List UInt8) (v1 : List UInt8) (v2 : Int) (v3 : Bool) (v4 : (List UInt8) × List UInt8) (v5 : (List UInt8) × List UInt8) (v6 : (List UInt8) × List UInt8) : Option (((List UInt8) × (List UInt8) × Int × Bool × Bool × ((List UInt8) × List UInt8) × ((List UInt8) × List UInt8) × (List UInt8) × List UInt8)) := ((span_Has k v4 v0).bind fun r4 => (bif v3 then ((ref10_Has k v4 v0).bind fun r5 => some (v0, v1, v2, v3, (!(r4 == r5)), (v4.1, v4.2), (v5.1, v5.2), (v6.1, v6.2))) else some (v0, v1, v2, v3, (!(r4 == false)), (v4.1, v4.2), (v5.1, v5.2), (v6.1, v6.2))))
def law10_SpanSplits_u7 : Part := ⟨⟨[(3, .ptr 500000 0), (7, .ptr 500001 0), (8, .ptr 500002 0)], [.val 1 .str, .val 2 .str, .val 9 (.int .i64), .val 10 .bool, .cells 500000 [.dyn .str, .dyn .str], .cells 500001 [.dyn .str, .dyn .str], .cells 500002 [.dyn .str, .dyn .str]]⟩, [(.normal, ⟨[(3, .ptr 500000 0), (7, .ptr 500001 0), (8, .ptr 500002 0)], [.val 1 .str, .val 2 .str, .val 9 (.int .i64), .val 10 .bool, .val 34 .bool, .cells 500000 [.dyn .str, .dyn .str], .cells 500001 [.dyn .str, .dyn .str], .cells 500002 [.dyn .str, .dyn .str]]⟩)], fun k x => law10_SpanSplits_p7 k x.1 x.2.1 x.2.2.1 x.2.2.2.1 x.2.2.2.2.1 x.2.2.2.2.2.1 x.2.2.2.2.2.2⟩
def law10_SpanSplits_p4 (k : Nat) (v0 : List UInt8) (v1 : List UInt8) (v2 : Int) (v3 : (List UInt8) × List UInt8) (v4 : (List UInt8) × List UInt8) (v5 : (List UInt8) × List UInt8) : Option (((List UInt8) × (List UInt8) × Int × Bool × ((List UInt8) × List UInt8) × ((List UInt8) × List UInt8) × (List UInt8) × List UInt8)) := ((ref10_May k v3).bind fun r2 => (bif r2 then some (v0, v1, v2, (decide (((v0).length : Int) ≤ 64)), (v3.1, v3.2), (v4.1, v4.2), (v5.1, v5.2)) else some (v0, v1, v2, false, (v3.1, v3.2), (v4.1, v4.2), (v5.1, v5.2))))
def law10_SpanSplits_u4 : Part := ⟨⟨[(3, .ptr 500000 0), (7, .ptr 500001 0), (8, .ptr 500002 0)], [.val 1 .str, .val 2 .str, .val 9 (.int .i64), .cells 500000 [.dyn .str, .dyn .str], .cells 500001 [.dyn .str, .dyn .str], .cells 500002 [.dyn .str, .dyn .str]]⟩, [(.normal, ⟨[(3, .ptr 500000 0), (7, .ptr 500001 0), (8, .ptr 500002 0)], [.val 1 .str, .val 2 .str, .val 9 (.int .i64), .val 10 .bool, .cells 500000 [.dyn .str, .dyn .str], .cells 500001 [.dyn .str, .dyn .str], .cells 500002 [.dyn .str, .dyn .str]]⟩)], fun k x => law10_SpanSplits_p4 k x.1 x.2.1 x.2.2.1 x.2.2.2.1 x.2.2.2.2.1 x.2.2.2.2.2⟩
def law10_SpanSplits (k : Nat) (x0 : (List UInt8) × List UInt8) (x1 : List UInt8) (x2 : List UInt8) : Option Bool := ((span_Split k x0 x1).bind fun r1 => ((law10_SpanSplits_p4 k x1 x2 r1.2.2 (x0.1, x0.2) (r1.1.1, r1.1.2) (r1.2.1.1, r1.2.1.2)).bind fun o3 => ((law10_SpanSplits_p7 k o3.1 o3.2.1 o3.2.2.1 o3.2.2.2.1 (o3.2.2.2.2.1.1, o3.2.2.2.2.1.2) (o3.2.2.2.2.2.1.1, o3.2.2.2.2.2.1.2) (o3.2.2.2.2.2.2.1, o3.2.2.2.2.2.2.2)).bind fun o6 => (bif o6.2.2.2.2.1 then some false else (bif (!o6.2.2.2.1) then (bif (o6.2.2.1 == 1) then (bif (T.eqb (.pair .str .str) o6.2.2.2.2.2.2.1 ([], [])) then (bif (T.eqb (.pair .str .str) o6.2.2.2.2.2.2.2 ([], [])) then ((law10_awake k ).bind fun r7 => some r7) else some false) else some false) else some false) else ((ref10_Has k o6.2.2.2.2.2.1 o6.1).bind fun r8 => (bif (!r8) then (bif (o6.2.2.1 == 10) then (bif (T.eqb (.pair .str .str) o6.2.2.2.2.2.2.1 ([], [])) then (bif (T.eqb (.pair .str .str) o6.2.2.2.2.2.2.2 ([], [])) then ((law10_awake k ).bind fun r9 => some r9) else some false) else some false) else some false) else (bif (o6.1 == o6.2.2.2.2.2.1.1) then (bif (o6.2.2.1 == 10) then (bif (T.eqb (.pair .str .str) o6.2.2.2.2.2.2.1 ([], [])) then (bif (T.eqb (.pair .str .str) o6.2.2.2.2.2.2.2 ([], [])) then ((law10_awake k ).bind fun r10 => some r10) else some false) else some false) else some false) else (bif (o6.2.2.1 != 0) then some false else (bif (!(o6.2.2.2.2.2.2.1.1 == o6.2.2.2.2.2.1.1)) then some false else (bif (!(o6.2.2.2.2.2.2.1.2 == o6.1)) then some false else (bif (!(o6.2.2.2.2.2.2.2.1 == o6.1)) then some false else (bif (!(o6.2.2.2.2.2.2.2.2 == o6.2.2.2.2.2.1.2)) then some false else ((span_Has k o6.2.2.2.2.2.2.1 o6.2.1).bind fun r11 => (bif r11 then ((span_Has k o6.2.2.2.2.2.1 o6.2.1).bind fun r12 => (bif (true == r12) then ((span_Has k o6.2.2.2.2.2.2.1 o6.2.1).bind fun r13 => (bif r13 then ((span_Has k o6.2.2.2.2.2.2.2 o6.2.1).bind fun r14 => (bif (!r14) then ((law10_awake k ).bind fun r15 => some r15) else some false)) else ((law10_awake k ).bind fun r16 => some r16))) else some false)) else ((span_Has k o6.2.2.2.2.2.2.2 o6.2.1).bind fun r17 => ((span_Has k o6.2.2.2.2.2.1 o6.2.1).bind fun r18 => (bif (r17 == r18) then ((span_Has k o6.2.2.2.2.2.2.1 o6.2.1).bind fun r19 => (bif r19 then ((span_Has k o6.2.2.2.2.2.2.2 o6.2.1).bind fun r20 => (bif (!r20) then ((law10_awake k ).bind fun r21 => some r21) else some false)) else ((law10_awake k ).bind fun r22 => some r22))) else some false))))))))))))))))))
def law10_SpanSplits_spec : FSpec := ⟨[.agg (.pair .str .str), .imm .str, .imm .str], [.imm .bool], fun k x => law10_SpanSplits k x.1 x.2.1 x.2.2⟩
def law10_SpanSplits_parts : Parts := fun n => cond (Nat.beq n 7) (some law10_SpanSplits_u7) (cond (Nat.beq n 4) (some law10_SpanSplits_u4) (none))
def law10_SpanSplits_env : List (Nat × FSpec) := [(7, span_Split_spec), (8, ref10_May_spec), (9, span_Has_spec), (10, ref10_Has_spec), (11, law10_awake_spec)]
end Go.Proofs.Ytlgfmkccnljhoaa.gg
