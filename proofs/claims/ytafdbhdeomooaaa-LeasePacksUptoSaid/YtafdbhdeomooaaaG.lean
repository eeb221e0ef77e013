/- What the functions compute: printed by a program of our own. -/
import Derived.Test.YtafdbhdeomooaaaL2
open Go Go.GG
set_option linter.unusedVariables false
namespace Go.Proofs.Ytafdbhdeomooaaa.gg
def tab : Tab := [(3, ⟨.int .i64, 1, 8, [.int .i64 0], some (.int .i64), false⟩),
  (9, ⟨.str, 1, 16, [.string ⟨#[]⟩], some .str, false⟩),
  (22, ⟨.slice 32, 1, 24, [.slice none 0 0], some (.slice (.pair .str (.pair (.int .u64) (.int .i64)))), false⟩),
  (23, ⟨.int .i64, 1, 8, [.int .i64 0], some (.int .i64), false⟩),
  (30, ⟨.int .u64, 1, 8, [.int .u64 0], some (.int .u64), false⟩),
  (32, ⟨.struct [(9, 0), (30, 1), (3, 2)], 3, 32, [.string ⟨#[]⟩, .int .u64 0, .int .i64 0], some (.pair .str (.pair (.int .u64) (.int .i64))), true⟩)]
def lease_time (k : Nat) (x0 : Int) : Option Bool := (bif (decide (x0 ≥ 0)) then some (decide (x0 ≤ 2147483647)) else some false)
def lease_time_spec : FSpec := ⟨[.imm (.int .i64)], [.imm .bool], fun k x => lease_time k x⟩
def lease_time_parts : Parts := fun _ => none
def lease_time_env : List (Nat × FSpec) := []
def lease_hold (k : Nat) (x0 : (List UInt8) × Int × Int) : Option Bool := (bif (decide (((x0.1).length : Int) ≤ 64)) then (bif (x0.2.1 != 0) then ((lease_time k x0.2.2).bind fun r1 => some r1) else some false) else some false)
def lease_hold_spec : FSpec := ⟨[.agg (.pair .str (.pair (.int .u64) (.int .i64)))], [.imm .bool], fun k x => lease_hold k x⟩
def lease_hold_parts : Parts := fun _ => none
def lease_hold_env : List (Nat × FSpec) := [(28, lease_time_spec)]
def lease_Check_p6 : Nat → (List ((List UInt8) × Int × Int)) → (List ((List UInt8) × Int × Int)) → Int → Int → Option ((List ((List UInt8) × Int × Int)) ⊕ Int)
  | 0, _, _, _, _ => none
  | k + 1, v0, v1, v2, v3 => (bif (decide (v3 < v2)) then ((at? v1 v3).bind fun e1 => ((lease_hold k e1).bind fun r2 => (bif (!r2) then some (.inr 1) else (bif (decide (v3 > 0)) then ((at? v0 (IntKind.wrap .i64 (v3 - 1))).bind fun e3 => (bif (strLess e1.1 e3.1 || e1.1 == e3.1) then some (.inr 1) else lease_Check_p6 k v0 v1 v2 (IntKind.wrap .i64 (v3 + 1)))) else lease_Check_p6 k v0 v1 v2 (IntKind.wrap .i64 (v3 + 1)))))) else some (.inl v0))
def lease_Check_u6 : Part := ⟨⟨[], [.val 0 (.slice (.pair .str (.pair (.int .u64) (.int .i64)))), .val 5 (.slice (.pair .str (.pair (.int .u64) (.int .i64)))), .val 6 (.int .i64), .val 7 (.int .i64)]⟩, [(.exit 0, ⟨[], [.val 0 (.slice (.pair .str (.pair (.int .u64) (.int .i64))))]⟩), (.ret, ⟨[], [.val 2 (.int .i64)]⟩)], fun k x => lease_Check_p6 k x.1 x.2.1 x.2.2.1 x.2.2.2⟩
def lease_Check (k : Nat) (x0 : List ((List UInt8) × Int × Int)) : Option Int := ((lease_Check_p6 k x0 x0 ((x0).length : Int) 0).bind fun o4 => Sum.elim (fun a5 => (bif (decide (((a5).length : Int) > 1024)) then some 1 else some 0)) (fun b6 => some b6) o4)
def lease_Check_spec : FSpec := ⟨[.imm (.slice (.pair .str (.pair (.int .u64) (.int .i64))))], [.imm (.int .i64)], fun k x => lease_Check k x⟩
def lease_Check_parts : Parts := fun n => cond (Nat.beq n 6) (some lease_Check_u6) (none)
def lease_Check_env : List (Nat × FSpec) := [(40, lease_hold_spec)]
def slices_Clone_api_Hold_api_Hold_nil (k : Nat) (x0 : Unit) : Option (List ((List UInt8) × Int × Int)) := some []
def slices_Clone_api_Hold_api_Hold_nil_spec : FSpec := ⟨[.nils], [.own (.pair .str (.pair (.int .u64) (.int .i64)))], fun k x => slices_Clone_api_Hold_api_Hold_nil k x⟩
def slices_Clone_api_Hold_api_Hold_nil_parts : Parts := fun _ => none
def slices_Clone_api_Hold_api_Hold_nil_env : List (Nat × FSpec) := []
def slices_Clone_api_Hold_api_Hold (k : Nat) (x0 : List ((List UInt8) × Int × Int)) : Option (List ((List UInt8) × Int × Int)) := (bif room (([] ++ x0)).length 32 then some ([] ++ x0) else none)
def slices_Clone_api_Hold_api_Hold_spec : FSpec := ⟨[.imm (.slice (.pair .str (.pair (.int .u64) (.int .i64))))], [.own (.pair .str (.pair (.int .u64) (.int .i64)))], fun k x => slices_Clone_api_Hold_api_Hold k x⟩
def slices_Clone_api_Hold_api_Hold_sspec : FSpec := ⟨[.nnil (.pair .str (.pair (.int .u64) (.int .i64)))], [.own (.pair .str (.pair (.int .u64) (.int .i64)))], fun k x => slices_Clone_api_Hold_api_Hold k x⟩
def slices_Clone_api_Hold_api_Hold_parts : Parts := fun _ => none
def slices_Clone_api_Hold_api_Hold_env : List (Nat × FSpec) := []
def lease_turned_p16 : Nat → (Int → Option Int) → Int → Int → (List ((List UInt8) × Int × Int)) → Option ((List ((List UInt8) × Int × Int)))
  | 0, _, _, _, _ => none
  | k + 1, v0, v1, v2, v3 => (bif (decide (v2 < v1)) then (bif (decide (0 ≤ v2) && decide (v2 < (v3).length)) then ((v3[Int.toNat v2]?).bind fun x4 => ((v0 x4.2.2).bind fun z5 => (bif (decide (0 ≤ v2) && decide (v2 < (v3).length)) then ((v3[(Int.toNat v2)]?).bind fun x6 => lease_turned_p16 k v0 v1 (IntKind.wrap .i64 (v2 + 1)) (v3.set (Int.toNat v2) (x6.1, (x6.2.1, z5)))) else none))) else none) else some v3)
def lease_turned_u16 : Part := ⟨⟨[(0, .sref 500000)], [.fn 2 [⟨(.int .i64), false⟩] (.int .i64), .val 20 (.int .i64), .val 21 (.int .i64), .arr 500000 (.pair .str (.pair (.int .u64) (.int .i64)))]⟩, [(.exit 0, ⟨[(0, .sref 500000)], [.arr 500000 (.pair .str (.pair (.int .u64) (.int .i64)))]⟩)], fun k x => lease_turned_p16 k x.1 x.2.1 x.2.2.1 x.2.2.2⟩
def lease_turned (k : Nat) (x0 : List ((List UInt8) × Int × Int)) (x1 : Int) (x2 : Int → Option Int) : Option ((List ((List UInt8) × Int × Int)) × Int) := ((lease_Check k x0).bind fun r1 => (bif (r1 != 0) then some ([], 1) else ((lease_time k x1).bind fun r2 => (bif (!r2) then some ([], 1) else ((slices_Clone_api_Hold_api_Hold k x0).bind fun r3 => ((lease_turned_p16 k x2 ((r3).length : Int) 0 r3).bind fun o7 => some (o7, 0)))))))
def lease_turned_spec : FSpec := ⟨[.imm (.slice (.pair .str (.pair (.int .u64) (.int .i64)))), .imm (.int .i64), .fn [⟨(.int .i64), false⟩] (.int .i64)], [.own (.pair .str (.pair (.int .u64) (.int .i64))), .imm (.int .i64)], fun k x => lease_turned k x.1 x.2.1 x.2.2⟩
def lease_turned_parts : Parts := fun n => cond (Nat.beq n 16) (some lease_turned_u16) (none)
def lease_turned_env : List (Nat × FSpec) := [(25, lease_Check_spec), (28, lease_time_spec), (43, slices_Clone_api_Hold_api_Hold_spec)]
def lease_Pack_1 (k : Nat) (x0 : Int) (x1 : Int) : Option Int := some (intMax 0 (IntKind.wrap .i64 (x0 - x1)))
def lease_Pack_1_spec : FSpec := ⟨[.imm (.int .i64), .ro (.int .i64)], [.imm (.int .i64)], fun k x => lease_Pack_1 k x.1 x.2⟩
def lease_Pack_1_parts : Parts := fun _ => none
def lease_Pack_1_env : List (Nat × FSpec) := []
def lease_Pack (k : Nat) (x0 : List ((List UInt8) × Int × Int)) (x1 : Int) : Option ((List ((List UInt8) × Int × Int)) × Int) := ((lease_turned k x0 x1 (fun y1 => lease_Pack_1 k y1 x1)).bind fun r2 => some (r2.1, r2.2))
def lease_Pack_spec : FSpec := ⟨[.imm (.slice (.pair .str (.pair (.int .u64) (.int .i64)))), .imm (.int .i64)], [.own (.pair .str (.pair (.int .u64) (.int .i64))), .imm (.int .i64)], fun k x => lease_Pack k x.1 x.2⟩
def lease_Pack_parts : Parts := fun _ => none
def lease_Pack_env : List (Nat × FSpec) := [(30, lease_turned_spec), (31, lease_Pack_1_spec)]
def ref17_Hold (k : Nat) (x0 : (List UInt8) × Int × Int) : Option Bool := (bif (decide (((x0.1).length : Int) ≤ 64)) then (bif (x0.2.1 != 0) then (bif (decide (x0.2.2 ≥ 0)) then some (decide (x0.2.2 ≤ 2147483647)) else some false) else some false) else some false)
def ref17_Hold_spec : FSpec := ⟨[.agg (.pair .str (.pair (.int .u64) (.int .i64)))], [.imm .bool], fun k x => ref17_Hold k x⟩
def ref17_Hold_parts : Parts := fun _ => none
def ref17_Hold_env : List (Nat × FSpec) := []
def ref17_May_p14 : Nat → (List ((List UInt8) × Int × Int)) → Int → Option (Unit ⊕ Bool)
  | 0, _, _ => none
  | k + 1, v0, v1 => (bif (decide (v1 < ((v0).length : Int))) then ((at? v0 v1).bind fun e1 => ((ref17_Hold k e1).bind fun r2 => (bif (!r2) then some (.inr false) else (bif (decide (v1 > 0)) then ((at? v0 v1).bind fun e3 => ((at? v0 (IntKind.wrap .i64 (v1 - 1))).bind fun e4 => (bif (strLess e3.1 e4.1 || e3.1 == e4.1) then some (.inr false) else ref17_May_p14 k v0 (IntKind.wrap .i64 (v1 + 1))))) else ref17_May_p14 k v0 (IntKind.wrap .i64 (v1 + 1)))))) else some (.inl ()))
def ref17_May_u14 : Part := ⟨⟨[], [.val 0 (.slice (.pair .str (.pair (.int .u64) (.int .i64)))), .val 3 (.int .i64)]⟩, [(.exit 0, ⟨[], []⟩), (.ret, ⟨[], [.val 2 .bool]⟩)], fun k x => ref17_May_p14 k x.1 x.2⟩
def ref17_May (k : Nat) (x0 : List ((List UInt8) × Int × Int)) : Option Bool := (bif (decide (((x0).length : Int) > 1024)) then some false else ((ref17_May_p14 k x0 0).bind fun o5 => Sum.elim (fun a6 => some true) (fun b7 => some b7) o5))
def ref17_May_spec : FSpec := ⟨[.imm (.slice (.pair .str (.pair (.int .u64) (.int .i64))))], [.imm .bool], fun k x => ref17_May k x⟩
def ref17_May_parts : Parts := fun n => cond (Nat.beq n 14) (some ref17_May_u14) (none)
def ref17_May_env : List (Nat × FSpec) := [(29, ref17_Hold_spec)]
def lease_Until (k : Nat) (x0 : Int) (x1 : Int) : Option (Int × Int) := ((lease_time k x0).bind fun r1 => (bif (!r1) then some (0, 1) else (bif (decide (x1 < 1)) then some (0, 1) else (bif (decide (x1 > 1048576)) then some (0, 1) else some ((intMin 2147483647 (IntKind.wrap .i64 (x0 + x1))), 0)))))
def lease_Until_spec : FSpec := ⟨[.imm (.int .i64), .imm (.int .i64)], [.imm (.int .i64), .imm (.int .i64)], fun k x => lease_Until k x.1 x.2⟩
def lease_Until_parts : Parts := fun _ => none
def lease_Until_env : List (Nat × FSpec) := [(28, lease_time_spec)]
def lease_Due_p14 : Nat → Int → (List ((List UInt8) × Int × Int)) → Int → Int → (List ((List UInt8) × Int × Int)) → (List ((List UInt8) × Int × Int)) → Option (((List ((List UInt8) × Int × Int)) × List ((List UInt8) × Int × Int)))
  | 0, _, _, _, _, _, _ => none
  | k + 1, v0, v1, v2, v3, v4, v5 => (bif (decide (v3 < v2)) then ((at? v1 v3).bind fun e3 => (bif (decide (e3.2.2 ≤ v0)) then (bif room ((v4 ++ [e3])).length 32 then lease_Due_p14 k v0 v1 v2 (IntKind.wrap .i64 (v3 + 1)) (v4 ++ [e3]) v5 else none) else (bif room ((v5 ++ [e3])).length 32 then lease_Due_p14 k v0 v1 v2 (IntKind.wrap .i64 (v3 + 1)) v4 (v5 ++ [e3]) else none))) else some (v4, v5))
def lease_Due_u14 : Part := ⟨⟨[(4, .sref 500001), (5, .sref 500002)], [.val 1 (.int .i64), .val 17 (.slice (.pair .str (.pair (.int .u64) (.int .i64)))), .val 18 (.int .i64), .val 19 (.int .i64), .arr 500001 (.pair .str (.pair (.int .u64) (.int .i64))), .arr 500002 (.pair .str (.pair (.int .u64) (.int .i64)))]⟩, [(.exit 0, ⟨[(4, .sref 500001), (5, .sref 500002)], [.arr 500001 (.pair .str (.pair (.int .u64) (.int .i64))), .arr 500002 (.pair .str (.pair (.int .u64) (.int .i64)))]⟩)], fun k x => lease_Due_p14 k x.1 x.2.1 x.2.2.1 x.2.2.2.1 x.2.2.2.2.1 x.2.2.2.2.2⟩
def lease_Due (k : Nat) (x0 : List ((List UInt8) × Int × Int)) (x1 : Int) : Option ((List ((List UInt8) × Int × Int)) × (List ((List UInt8) × Int × Int)) × Int) := ((lease_Check k x0).bind fun r1 => (bif (r1 != 0) then some ([], [], 1) else ((lease_time k x1).bind fun r2 => (bif (!r2) then some ([], [], 1) else ((lease_Due_p14 k x1 x0 ((x0).length : Int) 0 [] []).bind fun o4 => some (o4.1, o4.2, 0))))))
def lease_Due_spec : FSpec := ⟨[.imm (.slice (.pair .str (.pair (.int .u64) (.int .i64)))), .imm (.int .i64)], [.own (.pair .str (.pair (.int .u64) (.int .i64))), .own (.pair .str (.pair (.int .u64) (.int .i64))), .imm (.int .i64)], fun k x => lease_Due k x.1 x.2⟩
def lease_Due_parts : Parts := fun n => cond (Nat.beq n 14) (some lease_Due_u14) (none)
def lease_Due_env : List (Nat × FSpec) := [(25, lease_Check_spec), (28, lease_time_spec)]
def law17_awake (k : Nat) : Option Bool := ((lease_Until k 5 10).bind fun r1 => ((lease_Due k ([([97], (1, 15)), ([98], (2, 16))]) 15).bind fun r2 => (bif (r1.2 == 0) then (bif (r1.1 == 15) then (bif (r2.2.2 == 0) then (bif (((r2.1).length : Int) == 1) then (bif (((r2.2.1).length : Int) == 1) then (bif (decide (0 ≤ (0 : Int)) && decide ((0 : Int) < (r2.2.1).length)) then ((r2.2.1[Int.toNat 0]?).bind fun x3 => some (x3.1 == [98])) else none) else some false) else some false) else some false) else some false) else some false)))
def law17_awake_spec : FSpec := ⟨[], [.imm .bool], fun k x => law17_awake k⟩
def law17_awake_parts : Parts := fun _ => none
def law17_awake_env : List (Nat × FSpec) := [(7, lease_Until_spec), (8, lease_Due_spec)]
def lease_Unpack_1 (k : Nat) (x0 : Int) (x1 : Int) : Option Int := some (intMin 2147483647 (IntKind.wrap .i64 (x0 + x1)))
def lease_Unpack_1_spec : FSpec := ⟨[.imm (.int .i64), .ro (.int .i64)], [.imm (.int .i64)], fun k x => lease_Unpack_1 k x.1 x.2⟩
def lease_Unpack_1_parts : Parts := fun _ => none
def lease_Unpack_1_env : List (Nat × FSpec) := []
def lease_Unpack (k : Nat) (x0 : List ((List UInt8) × Int × Int)) (x1 : Int) : Option ((List ((List UInt8) × Int × Int)) × Int) := ((lease_turned k x0 x1 (fun y1 => lease_Unpack_1 k y1 x1)).bind fun r2 => some (r2.1, r2.2))
def lease_Unpack_spec : FSpec := ⟨[.imm (.slice (.pair .str (.pair (.int .u64) (.int .i64)))), .imm (.int .i64)], [.own (.pair .str (.pair (.int .u64) (.int .i64))), .imm (.int .i64)], fun k x => lease_Unpack k x.1 x.2⟩
def lease_Unpack_parts : Parts := fun _ => none
def lease_Unpack_env : List (Nat × FSpec) := [(30, lease_turned_spec), (32, lease_Unpack_1_spec)]
def law17_LeasePacks_p53 (k : Nat) (v0 : List ((List UInt8) × Int × Int)) (v1 : Int) (v2 : Int) (v3 : Int) (v4 : Int) (v5 : List ((List UInt8) × Int × Int)) (v6 : List ((List UInt8) × Int × Int)) : Option (((List ((List UInt8) × Int × Int)) × Int × Int × Int × Int × (List ((List UInt8) × Int × Int)) × List ((List UInt8) × Int × Int))) := (bif (decide (v4 < 0)) then some (v0, v1, v2, v3, 0, v5, v6) else some (v0, v1, v2, v3, v4, v5, v6))
def law17_LeasePacks_u53 : Part := ⟨⟨[(7, .sref 500000), (9, .sref 500001)], [.val 0 (.slice (.pair .str (.pair (.int .u64) (.int .i64)))), .val 1 (.int .i64), .val 2 (.int .i64), .val 11 (.int .i64), .val 12 (.int .i64), .arr 500000 (.pair .str (.pair (.int .u64) (.int .i64))), .arr 500001 (.pair .str (.pair (.int .u64) (.int .i64)))]⟩, [(.normal, ⟨[(7, .sref 500000), (9, .sref 500001)], [.val 0 (.slice (.pair .str (.pair (.int .u64) (.int .i64)))), .val 1 (.int .i64), .val 2 (.int .i64), .val 11 (.int .i64), .val 12 (.int .i64), .arr 500000 (.pair .str (.pair (.int .u64) (.int .i64))), .arr 500001 (.pair .str (.pair (.int .u64) (.int .i64)))]⟩)], fun k x => law17_LeasePacks_p53 k x.1 x.2.1 x.2.2.1 x.2.2.2.1 x.2.2.2.2.1 x.2.2.2.2.2.1 x.2.2.2.2.2.2⟩
def law17_LeasePacks_p42 : Nat → (List ((List UInt8) × Int × Int)) → Int → Int → Int → (List ((List UInt8) × Int × Int)) → (List ((List UInt8) × Int × Int)) → Option (Unit ⊕ Bool)
  | 0, _, _, _, _, _, _ => none
  | k + 1, v0, v1, v2, v3, v4, v5 => (bif (decide (v3 < ((v0).length : Int))) then ((at? v0 v3).bind fun e9 => ((law17_LeasePacks_p53 k v0 v1 v2 v3 (IntKind.wrap .i64 (e9.2.2 - v1)) v4 v5).bind fun o10 => (bif (decide (o10.2.2.2.2.1 < (IntKind.wrap .i64 (2147483647 - o10.2.2.1)))) then (bif (decide (0 ≤ o10.2.2.2.1) && decide (o10.2.2.2.1 < (o10.2.2.2.2.2.1).length)) then ((o10.2.2.2.2.2.1[Int.toNat o10.2.2.2.1]?).bind fun x11 => ((at? o10.1 o10.2.2.2.1).bind fun e12 => ((at? o10.1 o10.2.2.2.1).bind fun e13 => (bif (!(T.eqb (.pair .str (.pair (.int .u64) (.int .i64))) x11 (e12.1, (e13.2.1, o10.2.2.2.2.1)))) then some (.inr false) else (bif (decide (0 ≤ o10.2.2.2.1) && decide (o10.2.2.2.1 < (o10.2.2.2.2.2.2).length)) then ((o10.2.2.2.2.2.2[Int.toNat o10.2.2.2.1]?).bind fun x14 => ((at? o10.1 o10.2.2.2.1).bind fun e15 => ((at? o10.1 o10.2.2.2.1).bind fun e16 => (bif (!(T.eqb (.pair .str (.pair (.int .u64) (.int .i64))) x14 (e15.1, (e16.2.1, (IntKind.wrap .i64 (o10.2.2.1 + o10.2.2.2.2.1)))))) then some (.inr false) else law17_LeasePacks_p42 k o10.1 o10.2.1 o10.2.2.1 (IntKind.wrap .i64 (o10.2.2.2.1 + 1)) o10.2.2.2.2.2.1 o10.2.2.2.2.2.2)))) else none))))) else none) else (bif (decide (0 ≤ o10.2.2.2.1) && decide (o10.2.2.2.1 < (o10.2.2.2.2.2.1).length)) then ((o10.2.2.2.2.2.1[Int.toNat o10.2.2.2.1]?).bind fun x17 => ((at? o10.1 o10.2.2.2.1).bind fun e18 => ((at? o10.1 o10.2.2.2.1).bind fun e19 => (bif (!(T.eqb (.pair .str (.pair (.int .u64) (.int .i64))) x17 (e18.1, (e19.2.1, o10.2.2.2.2.1)))) then some (.inr false) else (bif (decide (0 ≤ o10.2.2.2.1) && decide (o10.2.2.2.1 < (o10.2.2.2.2.2.2).length)) then ((o10.2.2.2.2.2.2[Int.toNat o10.2.2.2.1]?).bind fun x20 => ((at? o10.1 o10.2.2.2.1).bind fun e21 => ((at? o10.1 o10.2.2.2.1).bind fun e22 => (bif (!(T.eqb (.pair .str (.pair (.int .u64) (.int .i64))) x20 (e21.1, (e22.2.1, 2147483647)))) then some (.inr false) else law17_LeasePacks_p42 k o10.1 o10.2.1 o10.2.2.1 (IntKind.wrap .i64 (o10.2.2.2.1 + 1)) o10.2.2.2.2.2.1 o10.2.2.2.2.2.2)))) else none))))) else none)))) else some (.inl ()))
def law17_LeasePacks_u42 : Part := ⟨⟨[(7, .sref 500000), (9, .sref 500001)], [.val 0 (.slice (.pair .str (.pair (.int .u64) (.int .i64)))), .val 1 (.int .i64), .val 2 (.int .i64), .val 11 (.int .i64), .arr 500000 (.pair .str (.pair (.int .u64) (.int .i64))), .arr 500001 (.pair .str (.pair (.int .u64) (.int .i64)))]⟩, [(.exit 0, ⟨[], []⟩), (.ret, ⟨[], [.val 6 .bool]⟩)], fun k x => law17_LeasePacks_p42 k x.1 x.2.1 x.2.2.1 x.2.2.2.1 x.2.2.2.2.1 x.2.2.2.2.2⟩
def law17_LeasePacks (k : Nat) (x0 : List ((List UInt8) × Int × Int)) (x1 : Int) (x2 : Int) : Option Bool := ((lease_Pack k x0 x1).bind fun r1 => ((ref17_May k x0).bind fun r2 => (bif (!r2) then (bif (r1.2 == 1) then (bif (((r1.1).length : Int) == 0) then ((law17_awake k ).bind fun r3 => some r3) else some false) else some false) else (bif (decide (x1 < 0)) then (bif (r1.2 == 1) then (bif (((r1.1).length : Int) == 0) then ((law17_awake k ).bind fun r4 => some r4) else some false) else some false) else (bif (decide (x1 > 2147483647)) then (bif (r1.2 == 1) then (bif (((r1.1).length : Int) == 0) then ((law17_awake k ).bind fun r5 => some r5) else some false) else some false) else (bif (r1.2 != 0) then some false else (bif (((r1.1).length : Int) != ((x0).length : Int)) then some false else ((lease_Unpack k r1.1 x2).bind fun r6 => (bif (decide (x2 < 0)) then (bif (r6.2 == 1) then (bif (((r6.1).length : Int) == 0) then ((law17_awake k ).bind fun r7 => some r7) else some false) else some false) else (bif (decide (x2 > 2147483647)) then (bif (r6.2 == 1) then (bif (((r6.1).length : Int) == 0) then ((law17_awake k ).bind fun r8 => some r8) else some false) else some false) else (bif (r6.2 != 0) then some false else (bif (((r6.1).length : Int) != ((x0).length : Int)) then some false else ((law17_LeasePacks_p42 k x0 x1 x2 0 r1.1 r6.1).bind fun o23 => Sum.elim (fun a24 => ((law17_awake k ).bind fun r26 => some r26)) (fun b25 => some b25) o23)))))))))))))
def law17_LeasePacks_spec : FSpec := ⟨[.imm (.slice (.pair .str (.pair (.int .u64) (.int .i64)))), .imm (.int .i64), .imm (.int .i64)], [.imm .bool], fun k x => law17_LeasePacks k x.1 x.2.1 x.2.2⟩
def law17_LeasePacks_parts : Parts := fun n => cond (Nat.beq n 53) (some law17_LeasePacks_u53) (cond (Nat.beq n 42) (some law17_LeasePacks_u42) (none))
def law17_LeasePacks_env : List (Nat × FSpec) := [(12, lease_Pack_spec), (9, ref17_May_spec), (10, law17_awake_spec), (13, lease_Unpack_spec)]
end Go.Proofs.Ytafdbhdeomooaaa.gg
