/- A part of our own proof. -/
import Derived.Test.YtlhifcknhgmidaaGreatDoorM
import Derived.Test.YtlhifcknhgmidaaGreatDoorProg
import Derived.KernelRfl
import Derived.Test.YtlhifcknhgmidaaGreatDoorLays
import Derived.Test.YtlhifcknhgmidaaGreatDoorHand
open Go Go.GG Go.Proofs
set_option linter.unusedVariables false
namespace Go.Proofs.YtlhifcknhgmidaaGreatDoor.gg
set_option maxRecDepth 100000
set_option maxRecDepth 100000 in
theorem xG : wU Tryz.prog tab := (xA ⟨by kernel_rfl, by kernel_rfl, rfl, by kernel_rfl, fun h => by cases h⟩ (xA ⟨by kernel_rfl, by kernel_rfl, rfl, by kernel_rfl, fun h => by cases h⟩ (xA ⟨by kernel_rfl, by kernel_rfl, rfl, by kernel_rfl, fun h => by cases h⟩ (xA ⟨by kernel_rfl, by kernel_rfl, rfl, by kernel_rfl, fun h => by cases h⟩ (xA ⟨by kernel_rfl, by kernel_rfl, rfl, by kernel_rfl, fun h => by cases h⟩ (xA ⟨by kernel_rfl, by kernel_rfl, rfl, by kernel_rfl, fun h => by cases h⟩ (xA ⟨by kernel_rfl, by kernel_rfl, rfl, by kernel_rfl, fun h => by cases h⟩ (xA ⟨by kernel_rfl, by kernel_rfl, rfl, by kernel_rfl, fun h => by cases h⟩ (xA ⟨by kernel_rfl, by kernel_rfl, rfl, by kernel_rfl, fun h => by cases h⟩ (xA ⟨by kernel_rfl, by kernel_rfl, rfl, by kernel_rfl, fun h => by cases h⟩ (xA ⟨by kernel_rfl, by kernel_rfl, rfl, by kernel_rfl, fun h => by cases h⟩ (xA ⟨by kernel_rfl, by kernel_rfl, rfl, by kernel_rfl, fun h => by cases h⟩ (xA ⟨by kernel_rfl, by kernel_rfl, rfl, by kernel_rfl, fun h => by cases h⟩ (xA ⟨by kernel_rfl, by kernel_rfl, rfl, by kernel_rfl, fun h => by cases h⟩ (xA ⟨by kernel_rfl, by kernel_rfl, rfl, by kernel_rfl, fun h => by cases h⟩ (xA ⟨by kernel_rfl, by kernel_rfl, rfl, by kernel_rfl, fun h => by cases h⟩ (xA ⟨by kernel_rfl, by kernel_rfl, rfl, by kernel_rfl, fun h => by cases h⟩ (xA ⟨by kernel_rfl, by kernel_rfl, rfl, by kernel_rfl, fun h => by cases h⟩ (xA ⟨by kernel_rfl, by kernel_rfl, rfl, by kernel_rfl, fun h => by cases h⟩ (xA ⟨by kernel_rfl, by kernel_rfl, rfl, by kernel_rfl, fun h => by cases h⟩ (xA ⟨by kernel_rfl, by kernel_rfl, rfl, by kernel_rfl, fun h => by cases h⟩ (xA ⟨by kernel_rfl, by kernel_rfl, rfl, by kernel_rfl, fun h => by cases h⟩ (xA ⟨by kernel_rfl, by kernel_rfl, rfl, by kernel_rfl, fun h => by cases h⟩ (xA ⟨by kernel_rfl, by kernel_rfl, rfl, by kernel_rfl, fun h => by cases h⟩ (xA ⟨by kernel_rfl, by kernel_rfl, rfl, by kernel_rfl, fun h => by cases h⟩ (xA ⟨by kernel_rfl, by kernel_rfl, rfl, by kernel_rfl, fun h => by cases h⟩ (xA ⟨by kernel_rfl, by kernel_rfl, rfl, by kernel_rfl, fun h => by cases h⟩ (xA ⟨by kernel_rfl, by kernel_rfl, rfl, by kernel_rfl, fun h => by cases h⟩ (xA ⟨by kernel_rfl, by kernel_rfl, rfl, by kernel_rfl, fun h => by cases h⟩ (xA ⟨by kernel_rfl, by kernel_rfl, rfl, by kernel_rfl, fun h => by cases h⟩ yQ1))))))))))))))))))))))))))))))
theorem mixed : Tryz.prog.follows .mixedOrders = true := by kernel_rfl
noncomputable def zYg : Code := match Tryz.f6.body with | some c => c | none => .skip
theorem yKe : yR tab (zV zZq) zU5 Tryz.f6 zYg zK3 := fun k x => by kernel_rfl
theorem yL6 : zT tab (zV zZq) zU5 0 zYg := ⟨trivial, trivial, ⟨trivial, trivial, trivial⟩⟩
theorem yBa : zZ Tryz.prog 6 zK3 := zO xG zS mixed Tryz.func6 rfl (by decide +kernel) (by decide) (by decide) (by kernel_rfl) yL6 yKe
noncomputable def zRd : Code := match Tryz.f72.body with | some c => c | none => .skip
theorem yDz : yR tab (zV zSt) zQd Tryz.f72 zRd zC9 := fun k x => by kernel_rfl
theorem yEk : zT tab (zV zSt) zQd 0 zRd := ⟨trivial, trivial, ⟨trivial, trivial, trivial⟩⟩
theorem zK7 : zZ Tryz.prog 72 zC9 := zO xG zS mixed Tryz.func72 rfl (by decide +kernel) (by decide) (by decide) (by kernel_rfl) yEk yDz
noncomputable def zN6 : Code := match Tryz.f62.body with | some c => c | none => .skip
theorem yAw : yR tab (zV zPz) zMv Tryz.f62 zN6 zBv := fun k x => by kernel_rfl
theorem zZh : zT tab (zV zPz) zMv 0 zN6 := ⟨trivial, trivial, ⟨trivial, ⟨trivial, trivial, ⟨⟨trivial, trivial, trivial⟩, trivial⟩⟩, ⟨trivial, trivial, ⟨trivial, ⟨trivial, trivial, ⟨⟨trivial, trivial, trivial⟩, trivial⟩⟩, ⟨trivial, trivial, trivial⟩⟩⟩⟩⟩
theorem zI7 : zZ Tryz.prog 62 zBv := zO xG (zE zK7 zS) mixed Tryz.func62 rfl (by decide +kernel) (by decide) (by decide) (by kernel_rfl) zZh yAw
noncomputable def zN5 : Code := match Tryz.f26.body with | some c => c | none => .skip
theorem zZv : yR tab (zV zPw) zMq Tryz.f26 zN5 zBw := fun k x => by kernel_rfl
theorem zY9 : zT tab (zV zPw) zMq 0 zN5 := ⟨trivial, trivial, ⟨trivial, trivial, ⟨trivial, ⟨trivial, trivial, ⟨trivial, trivial⟩⟩, ⟨trivial, trivial, trivial⟩⟩⟩⟩
theorem zI9 : zZ Tryz.prog 26 zBw := zO xG (zE zI7 zS) mixed Tryz.func26 rfl (by decide +kernel) (by decide) (by decide) (by kernel_rfl) zY9 zZv
theorem zDd : zJw Tryz.prog 74 jH := yVb Tryz.laysKeys (⟨_, Tryz.func74, by decide +kernel, by kernel_rfl⟩)
theorem zSh : zJw Tryz.prog 73 zIi := yVq Tryz.laysKeys Tryz.laysSorted Tryz.laysSort rfl (by kernel_rfl) (enters_of Tryz.func112 (by kernel_rfl) rfl) (enters_of Tryz.func113 (by kernel_rfl) rfl) (⟨_, Tryz.func73, by decide +kernel, by kernel_rfl⟩)
noncomputable def zNk : Code := match Tryz.f38.body with | some c => c | none => .skip
theorem zYp : yR tab (zV zOd) zLq Tryz.f38 zNk zDl := fun k x => by kernel_rfl
theorem zYr : zT tab (zV zOd) zLq 0 zNk := ⟨trivial, trivial, ⟨trivial, ⟨trivial, trivial, ⟨⟨trivial, trivial, trivial⟩, trivial⟩⟩, ⟨trivial, trivial, trivial⟩⟩⟩
theorem zN9 : zZ Tryz.prog 38 zDl := zO xG (zE zK7 (zH7 zDd (zH7 zSh zS))) mixed Tryz.func38 rfl (by decide +kernel) (by decide) (by decide) (by kernel_rfl) zYr zYp
noncomputable def zEi : Code := match Tryz.f39.body with | some c => c | none => .skip
theorem zMw : yR tab (zV zE8) zD7 Tryz.f39 zEi zEj := fun k x => by kernel_rfl
theorem zMz : zT tab (zV zE8) zD7 0 zEi := ⟨trivial, trivial, ⟨trivial, ⟨trivial, trivial, ⟨⟨trivial, trivial, trivial⟩, trivial⟩⟩, ⟨trivial, trivial, trivial⟩⟩⟩
theorem zMr : zZ Tryz.prog 39 zEj := zO xG zS mixed Tryz.func39 rfl (by decide +kernel) (by decide) (by decide) (by kernel_rfl) zMz zMw
noncomputable def zGx : Code := match Tryz.f39.body with | some c => c | none => .skip
theorem zQ0 : yR tab (zV zHn) zGi Tryz.f39 zGx zGe := fun k x => by kernel_rfl
theorem zQs : zT tab (zV zHn) zGi 0 zGx := ⟨trivial, trivial, ⟨trivial, ⟨trivial, trivial, ⟨⟨trivial, trivial, trivial⟩, trivial⟩⟩, ⟨trivial, trivial, trivial⟩⟩⟩
theorem zP9 : zZ Tryz.prog 39 zGe := zO xG zS mixed Tryz.func39 rfl (by decide +kernel) (by decide) (by decide) (by kernel_rfl) zQs zQ0
theorem wT : zZ Tryz.prog 39 xZ := yIo zMr zP9 (fun _ _ _ => rfl) (fun _ _ => by kernel_rfl)
noncomputable def zM1 : Code := match Tryz.f27.body with | some c => c | none => .skip
theorem zYs : yR tab (zV zN1) zMc Tryz.f27 zM1 zG1 := fun k x => by kernel_rfl
theorem zY4 : zT tab (zV zN1) zMc 0 zM1 := ⟨trivial, trivial, ⟨trivial, trivial, ⟨trivial, ⟨trivial, trivial, ⟨⟨fun _ => by kernel_rfl, fun k x => by kernel_rfl⟩, ⟨trivial, trivial, ⟨trivial, ⟨trivial, trivial⟩, ⟨trivial, ⟨trivial, trivial, ⟨trivial, trivial, trivial⟩⟩, trivial⟩⟩⟩⟩⟩, ⟨trivial, trivial, trivial⟩⟩⟩⟩
theorem zYy : zZ Tryz.prog 27 zG1 := zO xG (zE zN9 (zE wT zS)) mixed Tryz.func27 rfl (by decide +kernel) (by decide) (by decide) (by kernel_rfl) zY4 zYs
noncomputable def zCw : Code := match Tryz.f126.body with | some c => c | none => .skip
theorem zJ6 : yR tab (zV zDc) zCh Tryz.f126 zCw kJ := fun k x => by kernel_rfl
theorem zJ2 : zT tab (zV zDc) zCh 0 zCw := ⟨trivial, trivial, ⟨trivial, trivial, trivial⟩⟩
theorem zJ8 : zZ Tryz.prog 126 kJ := zO xG zS mixed Tryz.func126 rfl (by decide +kernel) (by decide) (by decide) (by kernel_rfl) zJ2 zJ6
noncomputable def zCt : Code := match Tryz.f94.body with | some c => c | none => .skip
theorem zJ1 : yR tab (zV zDa) zCj Tryz.f94 zCt kF := fun k x => by kernel_rfl
theorem zJ0 : zT tab (zV zDa) zCj 0 zCt := ⟨trivial, trivial, ⟨trivial, ⟨trivial, trivial, ⟨⟨trivial, trivial, trivial⟩, trivial⟩⟩, ⟨trivial, trivial, trivial⟩⟩⟩
theorem zJ5 : zZ Tryz.prog 94 kF := zO xG (zE zJ8 zS) mixed Tryz.func94 rfl (by decide +kernel) (by decide) (by decide) (by kernel_rfl) zJ0 zJ1
noncomputable def zKo : Code := match Tryz.f65.body with | some c => c | none => .skip
theorem zV2 : yR tab (zV zL9) zJz Tryz.f65 zKo zFz := fun k x => by kernel_rfl
theorem zVv : zT tab (zV zL9) zJz 0 zKo := ⟨trivial, trivial, ⟨trivial, trivial, trivial⟩⟩
theorem zVy : zZ Tryz.prog 65 zFz := zO xG (zE zJ5 zS) mixed Tryz.func65 rfl (by decide +kernel) (by decide) (by decide) (by kernel_rfl) zVv zV2
theorem yDu : zZ Tryz.prog 66 zQ3 := yUi Tryz.laysAtoi (⟨_, Tryz.func66, by decide +kernel, by kernel_rfl⟩)
theorem zSz : zZ Tryz.prog 67 zJ7 := yUj Tryz.laysTrim (by kernel_rfl) (⟨_, Tryz.func67, by decide +kernel, by kernel_rfl⟩)
noncomputable def zTu : Code := match Tryz.f30.body with | some c => c | none => .skip
theorem yHd : yR tab (zV zVq) zSu Tryz.f30 zTu zIe := fun k x => by kernel_rfl
theorem yG5 : zT tab (zV zVq) zSu 0 zTu := ⟨trivial, trivial, ⟨trivial, trivial, ⟨trivial, trivial, ⟨trivial, trivial, trivial⟩⟩⟩⟩
theorem zVn : zZ Tryz.prog 30 zIe := zO xG (zE zVy (zE yDu (zE zSz zS))) mixed Tryz.func30 rfl (by decide +kernel) (by decide) (by decide) (by kernel_rfl) yG5 yHd
noncomputable def zUd : Code := match Tryz.f121.body with | some c => c | none => .skip
theorem yHj : yR tab (zV zVb) zS5 Tryz.f121 zUd zM2 := fun k x => by kernel_rfl
theorem yG3 : zT tab (zV zVb) zS5 0 zUd := ⟨trivial, trivial, ⟨trivial, ⟨trivial, trivial, ⟨⟨fun _ => by kernel_rfl, fun k x => by kernel_rfl⟩, ⟨trivial, trivial, ⟨trivial, ⟨trivial, trivial⟩, ⟨trivial, ⟨trivial, trivial, ⟨trivial, ⟨trivial, trivial, ⟨⟨trivial, trivial, trivial⟩, trivial⟩⟩, ⟨trivial, trivial, ⟨trivial, trivial, ⟨⟨trivial, trivial, trivial⟩, trivial⟩⟩⟩⟩⟩, trivial⟩⟩⟩⟩⟩, ⟨trivial, ⟨trivial, trivial, ⟨⟨trivial, trivial, trivial⟩, ⟨trivial, trivial, ⟨⟨trivial, trivial, trivial⟩, trivial⟩⟩⟩⟩, ⟨trivial, trivial, trivial⟩⟩⟩⟩
theorem yHn : zZ Tryz.prog 121 zM2 := zO xG zS mixed Tryz.func121 rfl (by decide +kernel) (by decide) (by decide) (by kernel_rfl) yG3 yHj
noncomputable def zYk : Code := match Tryz.f144.body with | some c => c | none => .skip
theorem yMs : yR tab (zV zZ5) zVp Tryz.f144 zYk zQv := fun k x => by kernel_rfl
theorem yLj : zT tab (zV zZ5) zVp 0 zYk := ⟨trivial, trivial, ⟨trivial, trivial, ⟨trivial, ⟨trivial, trivial, ⟨⟨fun _ => by kernel_rfl, fun k x => by kernel_rfl⟩, ⟨trivial, trivial, ⟨trivial, ⟨trivial, trivial⟩, ⟨trivial, ⟨trivial, trivial, ⟨trivial, trivial, ⟨trivial, trivial, trivial⟩⟩⟩, trivial⟩⟩⟩⟩⟩, ⟨trivial, trivial, trivial⟩⟩⟩⟩
theorem yLy : zZ Tryz.prog 144 zQv := zO xG zS mixed Tryz.func144 rfl (by decide +kernel) (by decide) (by decide) (by kernel_rfl) yLj yMs
noncomputable def yDd : Code := match Tryz.f114.body with | some c => c | none => .skip
theorem yPb : yR tab (zV yF6) zZw Tryz.f114 yDd zUq := fun k x => by kernel_rfl
theorem yQa : zT tab (zV yF6) zZw 0 yDd := ⟨trivial, trivial, ⟨trivial, trivial, trivial⟩⟩
theorem yO9 : zZ Tryz.prog 114 zUq := zO xG (zE yLy zS) mixed Tryz.func114 rfl (by decide +kernel) (by decide) (by decide) (by kernel_rfl) yQa yPb
noncomputable def zYj : Code := match Tryz.f79.body with | some c => c | none => .skip
theorem yLo : yR tab (zV yBc) zU1 Tryz.f79 zYj zK2 := fun k x => by kernel_rfl
theorem yK6 : zT tab (zV yBc) zU1 0 zYj := ⟨trivial, trivial, ⟨trivial, trivial, ⟨trivial, trivial, trivial⟩⟩⟩
theorem yBe : zZ Tryz.prog 79 zK2 := zO xG (zE yO9 zS) mixed Tryz.func79 rfl (by decide +kernel) (by decide) (by decide) (by kernel_rfl) yK6 yLo
noncomputable def zYh : Code := match Tryz.f122.body with | some c => c | none => .skip
theorem yMl : yR tab (zV zZs) zUy Tryz.f122 zYh zQu := fun k x => by kernel_rfl
theorem yKm : zT tab (zV zZs) zUy 0 zYh := ⟨trivial, trivial, ⟨trivial, ⟨trivial, trivial, ⟨⟨trivial, trivial, trivial⟩, trivial⟩⟩, ⟨trivial, trivial, trivial⟩⟩⟩
theorem yKy : zZ Tryz.prog 122 zQu := zO xG (zE yBe (zE wT zS)) mixed Tryz.func122 rfl (by decide +kernel) (by decide) (by decide) (by kernel_rfl) yKm yMl
noncomputable def zTs : Code := match Tryz.f89.body with | some c => c | none => .skip
theorem yG7 : yR tab (zV zVg) zSn Tryz.f89 zTs zNc := fun k x => by kernel_rfl
theorem yHp : zT tab (zV zVg) zSn 0 zTs := ⟨trivial, trivial, ⟨trivial, trivial, ⟨trivial, ⟨trivial, trivial, ⟨⟨trivial, trivial, trivial⟩, trivial⟩⟩, ⟨trivial, ⟨trivial, trivial, ⟨⟨trivial, trivial, trivial⟩, trivial⟩⟩, ⟨trivial, trivial, ⟨fun k x => by kernel_rfl, ⟨trivial, trivial, ⟨⟨trivial, trivial, trivial⟩, trivial⟩⟩, ⟨trivial, trivial, trivial⟩⟩⟩⟩⟩⟩⟩
theorem yHy : zZ Tryz.prog 89 zNc := zO xG (zE yHn (zE yKy zS)) mixed Tryz.func89 rfl (by decide +kernel) (by decide) (by decide) (by kernel_rfl) yHp yG7
noncomputable def zVj : Code := match Tryz.f90.body with | some c => c | none => .skip
theorem yJg : yR tab (zV zYe) zT9 Tryz.f90 zVj zO7 := fun k x => by kernel_rfl
theorem yJa : zT tab (zV zYe) zT9 0 zVj := ⟨trivial, trivial, ⟨trivial, trivial, trivial⟩⟩
theorem yJl : zZ Tryz.prog 90 zO7 := zO xG (zE wT zS) mixed Tryz.func90 rfl (by decide +kernel) (by decide) (by decide) (by kernel_rfl) yJa yJg
noncomputable def zL5 : Code := match Tryz.f123.body with | some c => c | none => .skip
theorem zW8 : yR tab (zV zMf) zKs Tryz.f123 zL5 zGc := fun k x => by kernel_rfl
theorem zWi : zT tab (zV zMf) zKs 0 zL5 := ⟨trivial, trivial, ⟨trivial, trivial, trivial⟩⟩
theorem zXm : zZ Tryz.prog 123 zGc := zO xG zS mixed Tryz.func123 rfl (by decide +kernel) (by decide) (by decide) (by kernel_rfl) zWi zW8
noncomputable def zLo : Code := match Tryz.f124.body with | some c => c | none => .skip
theorem zW6 : yR tab (zV zMo) zKv Tryz.f124 zLo zGt := fun k x => by kernel_rfl
theorem zXc : zT tab (zV zMo) zKv 0 zLo := ⟨trivial, trivial, ⟨trivial, trivial, ⟨trivial, ⟨trivial, trivial, ⟨⟨fun _ => by kernel_rfl, fun k x => by kernel_rfl⟩, ⟨trivial, trivial, ⟨trivial, ⟨trivial, trivial⟩, ⟨trivial, ⟨trivial, trivial, ⟨trivial, ⟨trivial, trivial, ⟨trivial, trivial⟩⟩, ⟨trivial, trivial, ⟨trivial, trivial, ⟨⟨trivial, trivial, trivial⟩, trivial⟩⟩⟩⟩⟩, trivial⟩⟩⟩⟩⟩, ⟨trivial, trivial, trivial⟩⟩⟩⟩
theorem zWq : zZ Tryz.prog 124 zGt := zO xG zS mixed Tryz.func124 rfl (by decide +kernel) (by decide) (by decide) (by kernel_rfl) zXc zW6
noncomputable def zLt : Code := match Tryz.f125.body with | some c => c | none => .skip
theorem zWn : yR tab (zV zM7) zKn Tryz.f125 zLt zGn := fun k x => by kernel_rfl
theorem zXx : zT tab (zV zM7) zKn 0 zLt := ⟨trivial, trivial, ⟨trivial, trivial⟩⟩
theorem zX1 : zZ Tryz.prog 125 zGn := zO xG zS mixed Tryz.func125 rfl (by decide +kernel) (by decide) (by decide) (by kernel_rfl) zXx zWn
noncomputable def zIx : Code := match Tryz.f91.body with | some c => c | none => .skip
theorem zTe : yR tab (zV zJy) zIo Tryz.f91 zIx zD9 := fun k x => by kernel_rfl
theorem zTd : zT tab (zV zJy) zIo 0 zIx := ⟨trivial, trivial, ⟨trivial, ⟨trivial, trivial, ⟨⟨trivial, trivial, trivial⟩, trivial⟩⟩, ⟨trivial, trivial, ⟨trivial, ⟨trivial, trivial, ⟨trivial, trivial⟩⟩, ⟨trivial, trivial, ⟨trivial, trivial, trivial⟩⟩⟩⟩⟩⟩
theorem zTc : zZ Tryz.prog 91 zD9 := zO xG (zE zXm (zE zWq (zE zX1 zS))) mixed Tryz.func91 rfl (by decide +kernel) (by decide) (by decide) (by kernel_rfl) zTd zTe
noncomputable def zM3 : Code := match Tryz.f92.body with | some c => c | none => .skip
theorem zY5 : yR tab (zV zNz) zL8 Tryz.f92 zM3 zG5 := fun k x => by kernel_rfl
theorem zYw : zT tab (zV zNz) zL8 0 zM3 := ⟨trivial, trivial, ⟨trivial, ⟨trivial, trivial, ⟨⟨trivial, trivial, trivial⟩, trivial⟩⟩, ⟨trivial, trivial, trivial⟩⟩⟩
theorem zYo : zZ Tryz.prog 92 zG5 := zO xG zS mixed Tryz.func92 rfl (by decide +kernel) (by decide) (by decide) (by kernel_rfl) zYw zY5
noncomputable def zLv : Code := match Tryz.f93.body with | some c => c | none => .skip
theorem zW0 : yR tab (zV zNd) zKg Tryz.f93 zLv zGq := fun k x => by kernel_rfl
theorem zXw : zT tab (zV zNd) zKg 0 zLv := ⟨trivial, trivial, ⟨trivial, ⟨trivial, trivial, ⟨⟨trivial, trivial, trivial⟩, trivial⟩⟩, ⟨trivial, trivial, trivial⟩⟩⟩
theorem zW2 : zZ Tryz.prog 93 zGq := zO xG zS mixed Tryz.func93 rfl (by decide +kernel) (by decide) (by decide) (by kernel_rfl) zXw zW0
noncomputable def zUc : Code := match Tryz.f63.body with | some c => c | none => .skip
theorem yHs : yR tab (zV zVf) zSr Tryz.f63 zUc zMl := fun k x => by kernel_rfl
theorem yGy : zT tab (zV zVf) zSr 0 zUc := ⟨trivial, trivial, ⟨trivial, trivial, ⟨trivial, ⟨trivial, trivial, ⟨⟨trivial, trivial, trivial⟩, trivial⟩⟩, ⟨trivial, trivial, ⟨trivial, trivial, ⟨trivial, ⟨trivial, trivial, ⟨⟨trivial, trivial, trivial⟩, trivial⟩⟩, ⟨trivial, trivial, trivial⟩⟩⟩⟩⟩⟩⟩
theorem yHe : zZ Tryz.prog 63 zMl := zO xG (zE yHy (zE yJl (zE zTc (zE zYo (zE zW2 zS))))) mixed Tryz.func63 rfl (by decide +kernel) (by decide) (by decide) (by kernel_rfl) yGy yHs
noncomputable def zYn : Code := match Tryz.f28.body with | some c => c | none => .skip
theorem yK1 : yR tab (zV yAs) zU9 Tryz.f28 zYn zQx := fun k x => by kernel_rfl
theorem yKh : zT tab (zV yAs) zU9 0 zYn := ⟨trivial, trivial, ⟨trivial, trivial, ⟨trivial, trivial, ⟨trivial, ⟨trivial, trivial, ⟨⟨fun _ => by kernel_rfl, fun k x => by kernel_rfl⟩, ⟨trivial, trivial, ⟨trivial, ⟨trivial, trivial⟩, ⟨trivial, ⟨trivial, trivial, ⟨trivial, trivial, ⟨trivial, ⟨trivial, trivial, ⟨trivial, trivial⟩⟩, ⟨fun k x => by kernel_rfl, ⟨trivial, trivial, ⟨trivial, trivial⟩⟩, ⟨trivial, trivial, ⟨trivial, ⟨trivial, trivial, ⟨⟨fun _ => by kernel_rfl, fun k x => by kernel_rfl⟩, ⟨trivial, ⟨trivial, trivial, ⟨trivial, trivial⟩⟩, ⟨trivial, trivial, ⟨trivial, ⟨fun k x => by kernel_rfl, trivial, ⟨⟨trivial, trivial, trivial⟩, trivial⟩⟩, ⟨fun k x => by kernel_rfl, ⟨trivial, trivial, ⟨trivial, trivial⟩⟩, ⟨trivial, trivial, ⟨trivial, trivial, ⟨trivial, trivial, ⟨trivial, trivial, ⟨⟨trivial, trivial, ⟨trivial, trivial, trivial⟩⟩, trivial⟩⟩⟩⟩⟩⟩⟩⟩⟩⟩⟩, trivial⟩⟩⟩⟩⟩⟩, trivial⟩⟩⟩⟩⟩, ⟨trivial, trivial, trivial⟩⟩⟩⟩⟩
theorem yLe : zZ Tryz.prog 28 zQx := zO xG (zE zVn (zE yHe zS)) mixed Tryz.func28 rfl (by decide +kernel) (by decide) (by decide) (by kernel_rfl) yKh yK1
theorem yKx : zZ Tryz.prog 29 zX9 := yI5
noncomputable def zL1 : Code := match Tryz.f31.body with | some c => c | none => .skip
theorem zWb : yR tab (zV zNm) zKk Tryz.f31 zL1 zCs := fun k x => by kernel_rfl
theorem zWh : zT tab (zV zNm) zKk 0 zL1 := ⟨trivial, trivial, ⟨trivial, trivial, ⟨trivial, ⟨trivial, trivial, ⟨trivial, trivial⟩⟩, ⟨trivial, trivial, trivial⟩⟩⟩⟩
theorem zNr : zZ Tryz.prog 31 zCs := zO xG (zE zI7 zS) mixed Tryz.func31 rfl (by decide +kernel) (by decide) (by decide) (by kernel_rfl) zWh zWb
theorem yI3 : zJw Tryz.prog 64 zOu := yJ5
theorem yEr : zZ Tryz.prog 68 zQ5 := yUg Tryz.laysItoa (g := 6) (by kernel_rfl) rfl (⟨_, Tryz.func68, by decide +kernel, by kernel_rfl⟩)
theorem zZn : zZ Tryz.prog 69 zN7 := yR8 Tryz.laysRepeat Tryz.extraRepeat (⟨_, Tryz.func69, by decide +kernel, by kernel_rfl⟩)
noncomputable def zX7 : Code := match Tryz.f33.body with | some c => c | none => .skip
theorem yKb : yR tab (zV yAf) zVs Tryz.f33 zX7 zEp := fun k x => by kernel_rfl
theorem yMm : zT tab (zV yAf) zVs 0 zX7 := ⟨trivial, trivial, ⟨trivial, trivial, ⟨trivial, trivial, trivial⟩⟩⟩
theorem zM5 : zZ Tryz.prog 33 zEp := zO xG (zE yEr (zE zZn zS)) mixed Tryz.func33 rfl (by decide +kernel) (by decide) (by decide) (by kernel_rfl) yMm yKb
noncomputable def zL7 : Code := match Tryz.f34.body with | some c => c | none => .skip
theorem zXi : yR tab (zV zM6) zKb Tryz.f34 zL7 zAw := fun k x => by kernel_rfl
theorem zX2 : zT tab (zV zM6) zKb 0 zL7 := ⟨trivial, trivial, ⟨trivial, ⟨trivial, trivial, ⟨⟨trivial, trivial, trivial⟩, trivial⟩⟩, ⟨trivial, trivial, trivial⟩⟩⟩
theorem zHk : zZ Tryz.prog 34 zAw := zO xG zS mixed Tryz.func34 rfl (by decide +kernel) (by decide) (by decide) (by kernel_rfl) zX2 zXi
noncomputable def zP2 : Code := match Tryz.f32.body with | some c => c | none => .skip
theorem yCg : yR tab (zV zQ6) zN0 Tryz.f32 zP2 zFe := fun k x => by kernel_rfl
theorem yCj : zT tab (zV zQ6) zN0 0 zP2 := ⟨trivial, trivial, ⟨trivial, trivial, ⟨trivial, ⟨trivial, trivial, ⟨⟨trivial, trivial, trivial⟩, trivial⟩⟩, ⟨trivial, ⟨trivial, trivial, ⟨⟨trivial, trivial, trivial⟩, trivial⟩⟩, ⟨trivial, trivial, ⟨trivial, trivial, trivial⟩⟩⟩⟩⟩⟩
theorem zQ9 : zZ Tryz.prog 32 zFe := zO xG (zE zI7 (zE wT zS)) mixed Tryz.func32 rfl (by decide +kernel) (by decide) (by decide) (by kernel_rfl) yCj yCg
noncomputable def zYd : Code := match Tryz.f7.body with | some c => c | none => .skip
theorem yKw : yR tab (zV zZa) zVa Tryz.f7 zYd zKz := fun k x => by kernel_rfl
theorem yM0 : zT tab (zV zZa) zVa 0 zYd := ⟨trivial, trivial, ⟨trivial, ⟨trivial, trivial, ⟨⟨trivial, trivial, trivial⟩, trivial⟩⟩, ⟨trivial, trivial, ⟨fun k x => by kernel_rfl, trivial, ⟨trivial, trivial, ⟨trivial, trivial, ⟨trivial, ⟨trivial, trivial, ⟨trivial, trivial⟩⟩, ⟨trivial, ⟨trivial, trivial, ⟨⟨⟨[(0, .ptr 2000000 0), (1, .ptr 500000 0), (5, .dref 500001), (7, .ptr 500002 0), (8, .ptr 500003 0)], [.val 41 (.box 64 (.slice (.pair .str (.pair (.slice (.int .u8)) (.int .i64))))), .cells 2000000 [.stat (.mref 1000000)], .cells 500000 [.stat (.ptr 2000000 0)], .segs 500001, .cells 500002 [.stat (.ptr 2000000 0), .stat (.dref 500001)], .cells 500003 [.dyn (.int .i64)], .pm 1000000]⟩, (.pair .str (.pair (.slice (.int .u8)) (.int .i64))), 64, 41, 42, 43, fun x => x.1, fun k i e x => zHr k i e x.1 x.2.1 x.2.2.1 x.2.2.2.1 x.2.2.2.2.1 x.2.2.2.2.2.1 x.2.2.2.2.2.2, zOu, rfl, rfl, rfl, rfl, List.mem_of_getElem? (i := 0) (by kernel_rfl), rfl, fun x => by kernel_rfl, fun k i e x => by kernel_rfl, by kernel_rfl⟩, ⟨trivial, ⟨trivial, trivial, ⟨trivial, trivial, ⟨trivial, trivial⟩⟩⟩⟩⟩⟩, ⟨trivial, ⟨trivial, trivial, ⟨⟨trivial, trivial, trivial⟩, trivial⟩⟩, ⟨trivial, trivial, trivial⟩⟩⟩⟩⟩⟩⟩⟩⟩⟩
theorem yA4 : zZ Tryz.prog 7 zKz := zO xG (zE zI9 (zE zYy (zE yLe (zE yKx (zE zVn (zE zNr (zH7 yI3 (zE zM5 (zE zHk (zE zQ9 zS)))))))))) mixed Tryz.func7 rfl (by decide +kernel) (by decide) (by decide) (by kernel_rfl) yM0 yKw
noncomputable def zSc : Code := match Tryz.f8.body with | some c => c | none => .skip
theorem yGa : yR tab (zV zT8) zQ4 Tryz.f8 zSc zLg := fun k x => by kernel_rfl
theorem yGs : zT tab (zV zT8) zQ4 0 zSc := ⟨trivial, trivial, ⟨trivial, trivial, ⟨trivial, ⟨trivial, trivial, ⟨⟨fun _ => by kernel_rfl, fun k x => by kernel_rfl⟩, ⟨trivial, ⟨trivial, trivial, ⟨trivial, trivial⟩⟩, ⟨trivial, ⟨trivial, trivial, ⟨trivial, trivial, ⟨⟨trivial, trivial, trivial⟩, trivial⟩⟩⟩, trivial⟩⟩⟩⟩, ⟨trivial, trivial, trivial⟩⟩⟩⟩
theorem yGp : zZ Tryz.prog 8 zLg := zO xG zS mixed Tryz.func8 rfl (by decide +kernel) (by decide) (by decide) (by kernel_rfl) yGs yGa
noncomputable def zTm : Code := match Tryz.f35.body with | some c => c | none => .skip
theorem yHh : yR tab (zV zUw) zSl Tryz.f35 zTm zBm := fun k x => by kernel_rfl
theorem yHx : zT tab (zV zUw) zSl 0 zTm := ⟨trivial, trivial, ⟨trivial, trivial, trivial⟩⟩
theorem zGb : zZ Tryz.prog 35 zBm := zO xG zS mixed Tryz.func35 rfl (by decide +kernel) (by decide) (by decide) (by kernel_rfl) yHx yHh
theorem zMj : zJw Tryz.prog 36 zG6 := yM5
noncomputable def zRg : Code := match Tryz.f9.body with | some c => c | none => .skip
theorem yD9 : yR tab (zV zSg) zQf Tryz.f9 zRg zF4 := fun k x => by kernel_rfl
theorem yDm : zT tab (zV zSg) zQf 0 zRg := ⟨trivial, trivial, ⟨trivial, trivial⟩⟩
theorem zS8 : zZ Tryz.prog 9 zF4 := zO xG (zE zGb (zH7 zMj (zE zM5 (zE zI9 zS)))) mixed Tryz.func9 rfl (by decide +kernel) (by decide) (by decide) (by kernel_rfl) yDm yD9
noncomputable def zAc : Code := match Tryz.f70.body with | some c => c | none => .skip
theorem zFr : yR tab (zV zAg) kO Tryz.f70 zAc wI := fun k x => by kernel_rfl
theorem zFm : zT tab (zV zAg) kO 0 zAc := ⟨trivial, trivial, ⟨trivial, ⟨trivial, trivial, ⟨⟨fun _ => by kernel_rfl, fun k x => by kernel_rfl⟩, ⟨trivial, trivial, ⟨trivial, ⟨trivial, trivial⟩, ⟨trivial, ⟨trivial, trivial, ⟨trivial, trivial, ⟨⟨trivial, trivial, trivial⟩, trivial⟩⟩⟩, trivial⟩⟩⟩⟩⟩, ⟨trivial, trivial, trivial⟩⟩⟩
theorem zAf : zZ Tryz.prog 70 wI := zO xG zS mixed Tryz.func70 rfl (by decide +kernel) (by decide) (by decide) (by kernel_rfl) zFm zFr
noncomputable def zLp : Code := match Tryz.f41.body with | some c => c | none => .skip
theorem zWk : yR tab (zV zNs) zKd Tryz.f41 zLp zCq := fun k x => by kernel_rfl
theorem zWf : zT tab (zV zNs) zKd 0 zLp := ⟨trivial, trivial, ⟨trivial, trivial, trivial⟩⟩
theorem zNt : zZ Tryz.prog 41 zCq := zO xG zS mixed Tryz.func41 rfl (by decide +kernel) (by decide) (by decide) (by kernel_rfl) zWf zWk
noncomputable def zOb : Code := match Tryz.f71.body with | some c => c | none => .skip
theorem yAq : yR tab (zV zPp) zMy Tryz.f71 zOb zId := fun k x => by kernel_rfl
theorem yAx : zT tab (zV zPp) zMy 0 zOb := ⟨trivial, trivial, ⟨trivial, trivial, trivial⟩⟩
theorem zZ0 : zZ Tryz.prog 71 zId := zO xG (zE zNt zS) mixed Tryz.func71 rfl (by decide +kernel) (by decide) (by decide) (by kernel_rfl) yAx yAq
noncomputable def zQ7 : Code := match Tryz.f37.body with | some c => c | none => .skip
theorem yEt : yR tab (zV zSx) zQj Tryz.f37 zQ7 zF2 := fun k x => by kernel_rfl
theorem yEy : zT tab (zV zSx) zQj 0 zQ7 := ⟨trivial, trivial, ⟨trivial, ⟨trivial, trivial, ⟨⟨trivial, trivial, trivial⟩, trivial⟩⟩, ⟨trivial, trivial, trivial⟩⟩⟩
theorem zSv : zZ Tryz.prog 37 zF2 := zO xG (zE zGb (zE zAf (zE zZ0 zS))) mixed Tryz.func37 rfl (by decide +kernel) (by decide) (by decide) (by kernel_rfl) yEy yEt
noncomputable def zNq : Code := match Tryz.f10.body with | some c => c | none => .skip
theorem zY2 : yR tab (zV zNx) zMb Tryz.f10 zNq zHb := fun k x => by kernel_rfl
theorem zYx : zT tab (zV zNx) zMb 0 zNq := ⟨trivial, trivial, ⟨trivial, ⟨trivial, trivial, ⟨⟨trivial, trivial, trivial⟩, trivial⟩⟩, ⟨trivial, trivial, ⟨trivial, ⟨trivial, trivial, ⟨⟨trivial, trivial, trivial⟩, trivial⟩⟩, ⟨trivial, ⟨⟨fun _ => by kernel_rfl, fun k x => by kernel_rfl⟩, ⟨trivial, ⟨trivial, trivial, ⟨trivial, trivial⟩⟩, ⟨trivial, trivial, trivial⟩⟩⟩, ⟨trivial, trivial, ⟨trivial, trivial, ⟨trivial, trivial, ⟨trivial, trivial, ⟨trivial, trivial, trivial⟩⟩⟩⟩⟩⟩⟩⟩⟩⟩
theorem zYq : zZ Tryz.prog 10 zHb := zO xG (zE zGb (zE zSv (zH7 zMj (zE zM5 (zE zNr (zE zHk (zE zQ9 zS))))))) mixed Tryz.func10 rfl (by decide +kernel) (by decide) (by decide) (by kernel_rfl) zYx zY2
noncomputable def zM0 : Code := match Tryz.f11.body with | some c => c | none => .skip
theorem zY0 : yR tab (zV zN3) zLn Tryz.f11 zM0 zDh := fun k x => by kernel_rfl
theorem zY1 : zT tab (zV zN3) zLn 0 zM0 := ⟨trivial, trivial, ⟨⟨fun _ => by kernel_rfl, fun k x => by kernel_rfl⟩, ⟨trivial, trivial, ⟨trivial, ⟨trivial, trivial⟩, ⟨trivial, ⟨trivial, trivial, ⟨trivial, trivial, ⟨trivial, trivial, ⟨trivial, ⟨trivial, trivial, ⟨trivial, trivial⟩⟩, ⟨trivial, trivial, trivial⟩⟩⟩⟩⟩, trivial⟩⟩⟩⟩⟩
theorem zN8 : zZ Tryz.prog 11 zDh := zO xG (zE zN9 (zE wT zS)) mixed Tryz.func11 rfl (by decide +kernel) (by decide) (by decide) (by kernel_rfl) zY1 zY0
noncomputable def zSq : Code := match Tryz.f12.body with | some c => c | none => .skip
theorem yE5 : yR tab (zV zT1) zRe Tryz.f12 zSq zHf := fun k x => by kernel_rfl
theorem yF3 : zT tab (zV zT1) zRe 0 zSq := ⟨trivial, trivial, ⟨trivial, trivial, ⟨trivial, ⟨trivial, trivial, ⟨⟨trivial, trivial, trivial⟩, trivial⟩⟩, ⟨trivial, trivial, ⟨trivial, trivial, trivial⟩⟩⟩⟩⟩
theorem zTk : zZ Tryz.prog 12 zHf := zO xG (zE zSv (zE wT zS)) mixed Tryz.func12 rfl (by decide +kernel) (by decide) (by decide) (by kernel_rfl) yF3 yE5
noncomputable def kX : Code := match Tryz.f76.body with | some c => c | none => .skip
theorem zFo : yR tab (zV zAj) kS Tryz.f76 kX zAb := fun k x => by kernel_rfl
theorem zFk : zT tab (zV zAj) kS 0 kX := ⟨trivial, trivial, ⟨trivial, ⟨trivial, trivial, ⟨⟨trivial, trivial, trivial⟩, trivial⟩⟩, ⟨trivial, trivial, trivial⟩⟩⟩
theorem zFt : zZ Tryz.prog 76 zAb := zO xG zS mixed Tryz.func76 rfl (by decide +kernel) (by decide) (by decide) (by kernel_rfl) zFk zFo
noncomputable def zA3 : Code := match Tryz.f76.body with | some c => c | none => .skip
theorem zG0 : yR tab (zV zA9) zAu Tryz.f76 zA3 zAx := fun k x => by kernel_rfl
theorem zGy : zT tab (zV zA9) zAu 0 zA3 := ⟨trivial, trivial, ⟨trivial, ⟨trivial, trivial, ⟨⟨trivial, trivial, trivial⟩, trivial⟩⟩, ⟨trivial, trivial, trivial⟩⟩⟩
theorem zGv : zZ Tryz.prog 76 zAx := zO xG zS mixed Tryz.func76 rfl (by decide +kernel) (by decide) (by decide) (by kernel_rfl) zGy zG0
theorem zG3 : zZ Tryz.prog 76 zA2 := yIo zFt zGv (fun _ _ _ => rfl) (fun _ _ => by kernel_rfl)
noncomputable def kN : Code := match Tryz.f75.body with | some c => c | none => .skip
theorem zEt : yR tab (zV zAa) kE Tryz.f75 kN vL := fun k x => by kernel_rfl
theorem zFa : zT tab (zV zAa) kE 0 kN := ⟨trivial, trivial, ⟨trivial, trivial, ⟨trivial, ⟨trivial, trivial, ⟨⟨trivial, trivial, trivial⟩, trivial⟩⟩, ⟨trivial, ⟨trivial, trivial, ⟨⟨fun _ => by kernel_rfl, fun k x => by kernel_rfl⟩, ⟨trivial, ⟨trivial, trivial, ⟨trivial, trivial⟩⟩, ⟨trivial, ⟨trivial, trivial, ⟨trivial, trivial, ⟨⟨trivial, trivial, trivial⟩, trivial⟩⟩⟩, trivial⟩⟩⟩⟩, ⟨trivial, trivial, ⟨trivial, trivial, trivial⟩⟩⟩⟩⟩⟩
theorem zFd : zZ Tryz.prog 75 vL := zO xG (zE zAf zS) mixed Tryz.func75 rfl (by decide +kernel) (by decide) (by decide) (by kernel_rfl) zFa zEt
noncomputable def zN2 : Code := match Tryz.f77.body with | some c => c | none => .skip
theorem yA0 : yR tab (zV zPn) zMi Tryz.f77 zN2 zH9 := fun k x => by kernel_rfl
theorem zY7 : zT tab (zV zPn) zMi 0 zN2 := ⟨trivial, trivial, ⟨trivial, trivial, trivial⟩⟩
theorem yA6 : zZ Tryz.prog 77 zH9 := zO xG zS mixed Tryz.func77 rfl (by decide +kernel) (by decide) (by decide) (by kernel_rfl) zY7 yA0
noncomputable def zRf : Code := match Tryz.f40.body with | some c => c | none => .skip
theorem yD8 : yR tab (zV zTa) zPo Tryz.f40 zRf zF1 := fun k x => by kernel_rfl
theorem yDf : zT tab (zV zTa) zPo 0 zRf := ⟨trivial, trivial, ⟨trivial, ⟨trivial, trivial, ⟨⟨trivial, trivial, trivial⟩, trivial⟩⟩, ⟨trivial, trivial, trivial⟩⟩⟩
theorem zS0 : zZ Tryz.prog 40 zF1 := zO xG (zE zGb (zE zG3 (zE zFd (zE yA6 zS)))) mixed Tryz.func40 rfl (by decide +kernel) (by decide) (by decide) (by kernel_rfl) yDf yD8
noncomputable def zRa : Code := match Tryz.f13.body with | some c => c | none => .skip
theorem yD2 : yR tab (zV zSs) zP3 Tryz.f13 zRa zDb := fun k x => by kernel_rfl
theorem yE3 : zT tab (zV zSs) zP3 0 zRa := ⟨trivial, trivial, ⟨trivial, trivial, ⟨trivial, ⟨trivial, trivial, ⟨⟨trivial, trivial, trivial⟩, trivial⟩⟩, ⟨trivial, trivial, trivial⟩⟩⟩⟩
theorem zLa : zZ Tryz.prog 13 zDb := zO xG (zE zS0 (zE zNt zS)) mixed Tryz.func13 rfl (by decide +kernel) (by decide) (by decide) (by kernel_rfl) yE3 yD2
noncomputable def zYa : Code := match Tryz.f78.body with | some c => c | none => .skip
theorem yLs : yR tab (zV yAk) zV0 Tryz.f78 zYa zQy := fun k x => by kernel_rfl
theorem yMa : zT tab (zV yAk) zV0 0 zYa := ⟨trivial, trivial, ⟨trivial, trivial, trivial⟩⟩
theorem yL2 : zZ Tryz.prog 78 zQy := zO xG (zE zSz zS) mixed Tryz.func78 rfl (by decide +kernel) (by decide) (by decide) (by kernel_rfl) yMa yLs
noncomputable def zL0 : Code := match Tryz.f42.body with | some c => c | none => .skip
theorem zXr : yR tab (zV zM9) zKj Tryz.f42 zL0 zGu := fun k x => by kernel_rfl
theorem zV8 : zT tab (zV zM9) zKj 0 zL0 := ⟨trivial, trivial, ⟨trivial, ⟨trivial, trivial, ⟨⟨trivial, trivial, trivial⟩, trivial⟩⟩, ⟨trivial, trivial, ⟨trivial, ⟨trivial, trivial, ⟨trivial, trivial⟩⟩, ⟨trivial, ⟨trivial, trivial, ⟨⟨trivial, trivial, trivial⟩, trivial⟩⟩, ⟨trivial, trivial, ⟨trivial, trivial, ⟨trivial, trivial, trivial⟩⟩⟩⟩⟩⟩⟩⟩
theorem zXq : zZ Tryz.prog 42 zGu := zO xG (zE zK7 (zE yL2 zS)) mixed Tryz.func42 rfl (by decide +kernel) (by decide) (by decide) (by kernel_rfl) zV8 zXr
noncomputable def zX8 : Code := match Tryz.f80.body with | some c => c | none => .skip
theorem yLv : yR tab (zV yBg) zVw Tryz.f80 zX8 zQw := fun k x => by kernel_rfl
theorem yLm : zT tab (zV yBg) zVw 0 zX8 := ⟨trivial, trivial, ⟨trivial, trivial, trivial⟩⟩
theorem yKa : zZ Tryz.prog 80 zQw := zO xG zS mixed Tryz.func80 rfl (by decide +kernel) (by decide) (by decide) (by kernel_rfl) yLm yLv
noncomputable def zRb : Code := match Tryz.f44.body with | some c => c | none => .skip
theorem yE1 : yR tab (zV zSd) zQl Tryz.f44 zRb zF6 := fun k x => by kernel_rfl
theorem yD4 : zT tab (zV zSd) zQl 0 zRb := ⟨trivial, trivial, ⟨trivial, trivial, ⟨trivial, ⟨⟨fun _ => by kernel_rfl, fun k x => by kernel_rfl⟩, ⟨trivial, ⟨trivial, trivial, ⟨trivial, trivial⟩⟩, ⟨trivial, trivial, trivial⟩⟩⟩, ⟨trivial, trivial, trivial⟩⟩⟩⟩
theorem zS3 : zZ Tryz.prog 44 zF6 := zO xG (zE yKa zS) mixed Tryz.func44 rfl (by decide +kernel) (by decide) (by decide) (by kernel_rfl) yD4 yE1
noncomputable def zU7 : Code := match Tryz.f43.body with | some c => c | none => .skip
theorem yI2 : yR tab (zV zX5) zT2 Tryz.f43 zU7 zO8 := fun k x => by kernel_rfl
theorem yJe : zT tab (zV zX5) zT2 0 zU7 := ⟨trivial, trivial, ⟨trivial, ⟨trivial, trivial, ⟨⟨trivial, trivial, trivial⟩, trivial⟩⟩, ⟨trivial, trivial, ⟨trivial, trivial, trivial⟩⟩⟩⟩
theorem yI4 : zZ Tryz.prog 43 zO8 := zO xG (zE yBe (zE zS3 zS)) mixed Tryz.func43 rfl (by decide +kernel) (by decide) (by decide) (by kernel_rfl) yJe yI2
noncomputable def zOc : Code := match Tryz.f14.body with | some c => c | none => .skip
theorem zZz : yR tab (zV zQb) zMd Tryz.f14 zOc zEe := fun k x => by kernel_rfl
theorem yA2 : zT tab (zV zQb) zMd 0 zOc := ⟨trivial, trivial, ⟨trivial, trivial, ⟨trivial, ⟨trivial, trivial, ⟨⟨trivial, trivial, trivial⟩, ⟨trivial, trivial, ⟨⟨trivial, trivial, trivial⟩, ⟨trivial, trivial, ⟨⟨trivial, trivial, trivial⟩, trivial⟩⟩⟩⟩⟩⟩, ⟨trivial, trivial, ⟨trivial, ⟨trivial, trivial, ⟨⟨trivial, trivial, ⟨trivial, ⟨trivial, trivial, ⟨⟨trivial, trivial, trivial⟩, trivial⟩⟩, ⟨trivial, ⟨trivial, trivial, ⟨⟨trivial, trivial, trivial⟩, trivial⟩⟩, ⟨trivial, trivial, trivial⟩⟩⟩⟩, trivial⟩⟩, ⟨trivial, trivial, ⟨trivial, ⟨trivial, trivial, ⟨⟨trivial, trivial, trivial⟩, trivial⟩⟩, ⟨trivial, ⟨trivial, trivial, ⟨trivial, trivial⟩⟩, ⟨trivial, trivial, ⟨trivial, trivial, trivial⟩⟩⟩⟩⟩⟩⟩⟩⟩⟩
theorem zPt : zZ Tryz.prog 14 zEe := zO xG (zE zLa (zE zGb (zH7 zMj (zE zM5 (zE zXq (zE zS3 (zE yI4 (zE zHk (zE wT (zE zI9 zS)))))))))) mixed Tryz.func14 rfl (by decide +kernel) (by decide) (by decide) (by kernel_rfl) yA2 zZz
noncomputable def zPr : Code := match Tryz.f25.body with | some c => c | none => .skip
theorem yCh : yR tab (zV zRj) zOe Tryz.f25 zPr zI4 := fun k x => by kernel_rfl
theorem yCk : zT tab (zV zRj) zOe 0 zPr := ⟨trivial, trivial, ⟨trivial, trivial, ⟨trivial, ⟨trivial, trivial, ⟨⟨trivial, trivial, trivial⟩, trivial⟩⟩, ⟨trivial, trivial, trivial⟩⟩⟩⟩
theorem yCf : zZ Tryz.prog 25 zI4 := zO xG (zE zS0 zS) mixed Tryz.func25 rfl (by decide +kernel) (by decide) (by decide) (by kernel_rfl) yCk yCh
noncomputable def zS1 : Code := match Tryz.f15.body with | some c => c | none => .skip
theorem yGf : yR tab (zV zT3) zRc Tryz.f15 zS1 zK8 := fun k x => by kernel_rfl
theorem yFe : zT tab (zV zT3) zRc 0 zS1 := ⟨trivial, trivial, ⟨trivial, trivial, ⟨trivial, trivial, ⟨trivial, ⟨trivial, trivial, ⟨⟨trivial, trivial, trivial⟩, trivial⟩⟩, ⟨trivial, trivial, ⟨trivial, trivial, ⟨trivial, trivial, ⟨trivial, trivial, ⟨trivial, ⟨trivial, trivial, ⟨⟨trivial, trivial, trivial⟩, trivial⟩⟩, ⟨trivial, trivial, ⟨trivial, trivial, trivial⟩⟩⟩⟩⟩⟩⟩⟩⟩⟩⟩
theorem yGr : zZ Tryz.prog 15 zK8 := zO xG (zE yBa (zE yA4 (zE zPt (zE zS8 (zE zN8 (zE zTk (zE yCf (zE zLa zS)))))))) mixed Tryz.func15 rfl (by decide +kernel) (by decide) (by decide) (by kernel_rfl) yFe yGf
noncomputable def zP7 : Code := match Tryz.f3.body with | some c => c | none => .skip
theorem yCa : yR tab (zV zQ8) zOa Tryz.f3 zP7 zIr := fun k x => by kernel_rfl
theorem yB9 : zT tab (zV zQ8) zOa 0 zP7 := ⟨trivial, trivial, ⟨trivial, trivial, ⟨trivial, trivial, ⟨trivial, ⟨trivial, trivial, ⟨⟨trivial, trivial, trivial⟩, trivial⟩⟩, ⟨trivial, trivial, ⟨trivial, trivial, ⟨trivial, trivial, ⟨trivial, ⟨trivial, trivial, ⟨⟨fun _ => by kernel_rfl, fun k x => by kernel_rfl⟩, ⟨trivial, ⟨trivial, trivial, ⟨trivial, trivial⟩⟩, ⟨trivial, ⟨trivial, trivial, ⟨trivial, trivial, ⟨trivial, trivial, ⟨⟨trivial, trivial, trivial⟩, ⟨trivial, trivial, ⟨⟨trivial, trivial, ⟨trivial, ⟨trivial, trivial, ⟨⟨trivial, trivial, ⟨trivial, ⟨trivial, trivial, ⟨⟨trivial, trivial, trivial⟩, trivial⟩⟩, trivial⟩⟩, trivial⟩⟩, ⟨trivial, trivial, ⟨trivial, trivial⟩⟩⟩⟩, ⟨trivial, trivial, ⟨⟨trivial, trivial, ⟨trivial, trivial, ⟨trivial, ⟨trivial, trivial, ⟨⟨trivial, trivial, trivial⟩, trivial⟩⟩, ⟨trivial, trivial, ⟨trivial, ⟨⟨fun _ => by kernel_rfl, fun k x => by kernel_rfl⟩, ⟨trivial, ⟨trivial, trivial, ⟨trivial, trivial⟩⟩, ⟨trivial, trivial, ⟨trivial, ⟨trivial, trivial, ⟨trivial, trivial⟩⟩, trivial⟩⟩⟩⟩, ⟨trivial, ⟨trivial, trivial, ⟨⟨trivial, trivial, trivial⟩, trivial⟩⟩, ⟨trivial, trivial, trivial⟩⟩⟩⟩⟩⟩⟩, ⟨trivial, trivial, ⟨trivial, trivial, ⟨trivial, trivial⟩⟩⟩⟩⟩⟩⟩⟩⟩⟩⟩, trivial⟩⟩⟩⟩, ⟨trivial, trivial, trivial⟩⟩⟩⟩⟩⟩⟩⟩⟩
theorem yCd : zZ Tryz.prog 3 zIr := zO xG (zE yBa (zE yA4 (zE yGp (zE zS8 (zE zYq (zE zN8 (zE zTk (zE zLa (zE zPt (zE yGr zS)))))))))) mixed Tryz.func3 rfl (by decide +kernel) (by decide) (by decide) (by kernel_rfl) yB9 yCa
end Go.Proofs.YtlhifcknhgmidaaGreatDoor.gg
