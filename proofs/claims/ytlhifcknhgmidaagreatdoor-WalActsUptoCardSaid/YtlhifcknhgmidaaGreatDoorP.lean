/- A part of our own proof. -/
import Derived.Test.YtlhifcknhgmidaaGreatDoorM
import Derived.Test.YtlhifcknhgmidaaGreatDoorProg
import Derived.KernelRfl
import Derived.Test.YtlhifcknhgmidaaGreatDoorLays
import Derived.Test.YtlhifcknhgmidaaGreatDoorHand
open Go Go.GG Go.Proofs
set_option linter.unusedVariables false
namespace Go.Proofs.YtlhifcknhgmidaaGreatDoor.gg
set_option maxRecDepth 100000
set_option maxRecDepth 100000 in
theorem yE:vI Tryz.prog tab:=(yO ⟨by kernel_rfl,by kernel_rfl,rfl,by kernel_rfl,fun h=>by cases h⟩ (yO ⟨by kernel_rfl,by kernel_rfl,rfl,by kernel_rfl,fun h=>by cases h⟩ (yO ⟨by kernel_rfl,by kernel_rfl,rfl,by kernel_rfl,fun h=>by cases h⟩ (yO ⟨by kernel_rfl,by kernel_rfl,rfl,by kernel_rfl,fun h=>by cases h⟩ (yO ⟨by kernel_rfl,by kernel_rfl,rfl,by kernel_rfl,fun h=>by cases h⟩ (yO ⟨by kernel_rfl,by kernel_rfl,rfl,by kernel_rfl,fun h=>by cases h⟩ (yO ⟨by kernel_rfl,by kernel_rfl,rfl,by kernel_rfl,fun h=>by cases h⟩ (yO ⟨by kernel_rfl,by kernel_rfl,rfl,by kernel_rfl,fun h=>by cases h⟩ (yO ⟨by kernel_rfl,by kernel_rfl,rfl,by kernel_rfl,fun h=>by cases h⟩ (yO ⟨by kernel_rfl,by kernel_rfl,rfl,by kernel_rfl,fun h=>by cases h⟩ (yO ⟨by kernel_rfl,by kernel_rfl,rfl,by kernel_rfl,fun h=>by cases h⟩ (yO ⟨by kernel_rfl,by kernel_rfl,rfl,by kernel_rfl,fun h=>by cases h⟩ (yO ⟨by kernel_rfl,by kernel_rfl,rfl,by kernel_rfl,fun h=>by cases h⟩ (yO ⟨by kernel_rfl,by kernel_rfl,rfl,by kernel_rfl,fun h=>by cases h⟩ (yO ⟨by kernel_rfl,by kernel_rfl,rfl,by kernel_rfl,fun h=>by cases h⟩ (yO ⟨by kernel_rfl,by kernel_rfl,rfl,by kernel_rfl,fun h=>by cases h⟩ (yO ⟨by kernel_rfl,by kernel_rfl,rfl,by kernel_rfl,fun h=>by cases h⟩ (yO ⟨by kernel_rfl,by kernel_rfl,rfl,by kernel_rfl,fun h=>by cases h⟩ (yO ⟨by kernel_rfl,by kernel_rfl,rfl,by kernel_rfl,fun h=>by cases h⟩ (yO ⟨by kernel_rfl,by kernel_rfl,rfl,by kernel_rfl,fun h=>by cases h⟩ (yO ⟨by kernel_rfl,by kernel_rfl,rfl,by kernel_rfl,fun h=>by cases h⟩ (yO ⟨by kernel_rfl,by kernel_rfl,rfl,by kernel_rfl,fun h=>by cases h⟩ (yO ⟨by kernel_rfl,by kernel_rfl,rfl,by kernel_rfl,fun h=>by cases h⟩ (yO ⟨by kernel_rfl,by kernel_rfl,rfl,by kernel_rfl,fun h=>by cases h⟩ (yO ⟨by kernel_rfl,by kernel_rfl,rfl,by kernel_rfl,fun h=>by cases h⟩ (yO ⟨by kernel_rfl,by kernel_rfl,rfl,by kernel_rfl,fun h=>by cases h⟩ (yO ⟨by kernel_rfl,by kernel_rfl,rfl,by kernel_rfl,fun h=>by cases h⟩ (yO ⟨by kernel_rfl,by kernel_rfl,rfl,by kernel_rfl,fun h=>by cases h⟩ (yO ⟨by kernel_rfl,by kernel_rfl,rfl,by kernel_rfl,fun h=>by cases h⟩ (yO ⟨by kernel_rfl,by kernel_rfl,rfl,by kernel_rfl,fun h=>by cases h⟩ (yO ⟨by kernel_rfl,by kernel_rfl,rfl,by kernel_rfl,fun h=>by cases h⟩ (yO ⟨by kernel_rfl,by kernel_rfl,rfl,by kernel_rfl,fun h=>by cases h⟩ (yO ⟨by kernel_rfl,by kernel_rfl,rfl,by kernel_rfl,fun h=>by cases h⟩ (yO ⟨by kernel_rfl,by kernel_rfl,rfl,by kernel_rfl,fun h=>by cases h⟩ (yO ⟨by kernel_rfl,by kernel_rfl,rfl,by kernel_rfl,fun h=>by cases h⟩ (yO ⟨by kernel_rfl,by kernel_rfl,rfl,by kernel_rfl,fun h=>by cases h⟩ xQq))))))))))))))))))))))))))))))))))))
theorem mixed:Tryz.prog.follows .mixedOrders=true:=by kernel_rfl
noncomputable def yRu:Code:=match Tryz.f6.body with|some c=>c|none=> .skip
theorem xIp:zT tab (zM yTo) yMw Tryz.f6 yRu zWt:=fun k x=>by kernel_rfl
theorem xIf:zN tab (zM yTo) yMw 0 yRu:=⟨trivial,trivial,⟨trivial,trivial,trivial⟩⟩
theorem yU3:zQ Tryz.prog 6 zWt:=zG yE zH mixed Tryz.func6 rfl (by decide+kernel) (by decide) (by decide) (by kernel_rfl) xIf xIp
noncomputable def yGj:Code:=match Tryz.f72.body with|some c=>c|none=> .skip
theorem yYb:zT tab (zM yJ7) yEe Tryz.f72 yGj zHd:=fun k x=>by kernel_rfl
theorem yY4:zN tab (zM yJ7) yEe 0 yGj:=⟨trivial,trivial,⟨trivial,trivial,trivial⟩⟩
theorem zW1:zQ Tryz.prog 72 zHd:=zG yE zH mixed Tryz.func72 rfl (by decide+kernel) (by decide) (by decide) (by kernel_rfl) yY4 yYb
noncomputable def yBt:Code:=match Tryz.f62.body with|some c=>c|none=> .skip
theorem yTc:zT tab (zM yEm) yAq Tryz.f62 yBt zEn:=fun k x=>by kernel_rfl
theorem yTd:zN tab (zM yEm) yAq 0 yBt:=⟨trivial,trivial,⟨trivial,⟨trivial,trivial,⟨⟨trivial,trivial,trivial⟩,trivial⟩⟩,⟨trivial,trivial,⟨trivial,⟨trivial,trivial,⟨⟨trivial,trivial,trivial⟩,trivial⟩⟩,⟨trivial,trivial,trivial⟩⟩⟩⟩⟩
theorem zSs:zQ Tryz.prog 62 zEn:=zG yE (zB zW1 zH) mixed Tryz.func62 rfl (by decide+kernel) (by decide) (by decide) (by kernel_rfl) yTd yTc
noncomputable def yBq:Code:=match Tryz.f26.body with|some c=>c|none=> .skip
theorem yTv:zT tab (zM yD4) zYj Tryz.f26 yBq zEr:=fun k x=>by kernel_rfl
theorem yS2:zN tab (zM yD4) zYj 0 yBq:=⟨trivial,trivial,⟨trivial,trivial,⟨trivial,⟨trivial,trivial,⟨trivial,trivial⟩⟩,⟨trivial,trivial,trivial⟩⟩⟩⟩
theorem zS4:zQ Tryz.prog 26 zEr:=zG yE (zB zSs zH) mixed Tryz.func26 rfl (by decide+kernel) (by decide) (by decide) (by kernel_rfl) yS2 yTv
theorem zHu:zUo Tryz.prog 74 kG:=xTr Tryz.laysKeys (⟨_,Tryz.func74,by decide+kernel,by kernel_rfl⟩)
theorem yJu:zUo Tryz.prog 73 zSf:=xUg Tryz.laysKeys Tryz.laysSorted Tryz.laysSort rfl (by kernel_rfl) (enters_of Tryz.func112 (by kernel_rfl) rfl) (enters_of Tryz.func113 (by kernel_rfl) rfl) (⟨_,Tryz.func73,by decide+kernel,by kernel_rfl⟩)
noncomputable def zY9:Code:=match Tryz.f38.body with|some c=>c|none=> .skip
theorem ySt:zT tab (zM yBm) zX8 Tryz.f38 zY9 zH4:=fun k x=>by kernel_rfl
theorem ySp:zN tab (zM yBm) zX8 0 zY9:=⟨trivial,trivial,⟨trivial,⟨trivial,trivial,⟨⟨trivial,trivial,trivial⟩,trivial⟩⟩,⟨trivial,trivial,trivial⟩⟩⟩
theorem yBd:zQ Tryz.prog 38 zH4:=zG yE (zB zW1 (zRd zHu (zRd yJu zH))) mixed Tryz.func38 rfl (by decide+kernel) (by decide) (by decide) (by kernel_rfl) ySp ySt
noncomputable def zJ8:Code:=match Tryz.f39.body with|some c=>c|none=> .skip
theorem zY6:zT tab (zM zK9) zIx Tryz.f39 zJ8 zJ9:=fun k x=>by kernel_rfl
theorem zZl:zN tab (zM zK9) zIx 0 zJ8:=⟨trivial,trivial,⟨trivial,⟨trivial,trivial,⟨⟨trivial,trivial,trivial⟩,trivial⟩⟩,⟨trivial,trivial,trivial⟩⟩⟩
theorem zZ5:zQ Tryz.prog 39 zJ9:=zG yE zH mixed Tryz.func39 rfl (by decide+kernel) (by decide) (by decide) (by kernel_rfl) zZl zY6
noncomputable def zO3:Code:=match Tryz.f39.body with|some c=>c|none=> .skip
theorem yFf:zT tab (zM zQ5) zOa Tryz.f39 zO3 zOg:=fun k x=>by kernel_rfl
theorem yFh:zN tab (zM zQ5) zOa 0 zO3:=⟨trivial,trivial,⟨trivial,⟨trivial,trivial,⟨⟨trivial,trivial,trivial⟩,trivial⟩⟩,⟨trivial,trivial,trivial⟩⟩⟩
theorem yD0:zQ Tryz.prog 39 zOg:=zG yE zH mixed Tryz.func39 rfl (by decide+kernel) (by decide) (by decide) (by kernel_rfl) yFh yFf
theorem vG:zQ Tryz.prog 39 wK:=xFt zZ5 yD0 (fun _ _ _=>rfl) (fun _ _=>by kernel_rfl)
noncomputable def zYu:Code:=match Tryz.f27.body with|some c=>c|none=> .skip
theorem ySr:zT tab (zM yBa) zXu Tryz.f27 zYu zH5:=fun k x=>by kernel_rfl
theorem yR6:zN tab (zM yBa) zXu 0 zYu:=⟨trivial,trivial,⟨trivial,trivial,⟨trivial,⟨trivial,trivial,⟨⟨fun _=>by kernel_rfl,fun k x=>by kernel_rfl⟩,⟨trivial,trivial,⟨trivial,⟨trivial,trivial⟩,⟨trivial,⟨trivial,trivial,⟨trivial,trivial,trivial⟩⟩,trivial⟩⟩⟩⟩⟩,⟨trivial,trivial,trivial⟩⟩⟩⟩
theorem yBo:zQ Tryz.prog 27 zH5:=zG yE (zB yBd (zB vG zH)) mixed Tryz.func27 rfl (by decide+kernel) (by decide) (by decide) (by kernel_rfl) yR6 ySr
noncomputable def zGj:Code:=match Tryz.f126.body with|some c=>c|none=> .skip
theorem zU8:zT tab (zM zHl) zFu Tryz.f126 zGj zAv:=fun k x=>by kernel_rfl
theorem zU5:zN tab (zM zHl) zFu 0 zGj:=⟨trivial,trivial,⟨trivial,trivial,trivial⟩⟩
theorem zU0:zQ Tryz.prog 126 zAv:=zG yE zH mixed Tryz.func126 rfl (by decide+kernel) (by decide) (by decide) (by kernel_rfl) zU5 zU8
noncomputable def zGc:Code:=match Tryz.f94.body with|some c=>c|none=> .skip
theorem zVg:zT tab (zM zG8) zFt Tryz.f94 zGc zAy:=fun k x=>by kernel_rfl
theorem zU6:zN tab (zM zG8) zFt 0 zGc:=⟨trivial,trivial,⟨trivial,⟨trivial,trivial,⟨⟨trivial,trivial,trivial⟩,trivial⟩⟩,⟨trivial,trivial,trivial⟩⟩⟩
theorem zVf:zQ Tryz.prog 94 zAy:=zG yE (zB zU0 zH) mixed Tryz.func94 rfl (by decide+kernel) (by decide) (by decide) (by kernel_rfl) zU6 zVg
noncomputable def zVv:Code:=match Tryz.f65.body with|some c=>c|none=> .skip
theorem yNw:zT tab (zM zXm) zUw Tryz.f65 zVv zMy:=fun k x=>by kernel_rfl
theorem yOq:zN tab (zM zXm) zUw 0 zVv:=⟨trivial,trivial,⟨trivial,trivial,trivial⟩⟩
theorem yNr:zQ Tryz.prog 65 zMy:=zG yE (zB zVf zH) mixed Tryz.func65 rfl (by decide+kernel) (by decide) (by decide) (by kernel_rfl) yOq yNw
theorem yZh:zQ Tryz.prog 66 yGk:=xTs Tryz.laysAtoi (⟨_,Tryz.func66,by decide+kernel,by kernel_rfl⟩)
theorem yJr:zQ Tryz.prog 67 zU2:=xT6 Tryz.laysTrim (by kernel_rfl) (⟨_,Tryz.func67,by decide+kernel,by kernel_rfl⟩)
noncomputable def yLo:Code:=match Tryz.f30.body with|some c=>c|none=> .skip
theorem xCl:zT tab (zM yM4) yJ9 Tryz.f30 yLo zSl:=fun k x=>by kernel_rfl
theorem xEp:zN tab (zM yM4) yJ9 0 yLo:=⟨trivial,trivial,⟨trivial,trivial,⟨trivial,trivial,⟨trivial,trivial,trivial⟩⟩⟩⟩
theorem yM7:zQ Tryz.prog 30 zSl:=zG yE (zB yNr (zB yZh (zB yJr zH))) mixed Tryz.func30 rfl (by decide+kernel) (by decide) (by decide) (by kernel_rfl) xEp xCl
noncomputable def yK7:Code:=match Tryz.f121.body with|some c=>c|none=> .skip
theorem xEa:zT tab (zM yN8) yJ0 Tryz.f121 yK7 zZv:=fun k x=>by kernel_rfl
theorem xCn:zN tab (zM yN8) yJ0 0 yK7:=⟨trivial,trivial,⟨trivial,⟨trivial,trivial,⟨⟨fun _=>by kernel_rfl,fun k x=>by kernel_rfl⟩,⟨trivial,trivial,⟨trivial,⟨trivial,trivial⟩,⟨trivial,⟨trivial,trivial,⟨trivial,⟨trivial,trivial,⟨⟨trivial,trivial,trivial⟩,trivial⟩⟩,⟨trivial,trivial,⟨trivial,trivial,⟨⟨trivial,trivial,trivial⟩,trivial⟩⟩⟩⟩⟩,trivial⟩⟩⟩⟩⟩,⟨trivial,⟨trivial,trivial,⟨⟨trivial,trivial,trivial⟩,⟨trivial,trivial,⟨⟨trivial,trivial,trivial⟩,trivial⟩⟩⟩⟩,⟨trivial,trivial,trivial⟩⟩⟩⟩
theorem xCr:zQ Tryz.prog 121 zZv:=zG yE zH mixed Tryz.func121 rfl (by decide+kernel) (by decide) (by decide) (by kernel_rfl) xCn xEa
noncomputable def yRn:Code:=match Tryz.f144.body with|some c=>c|none=> .skip
theorem xJy:zT tab (zM yUc) yM5 Tryz.f144 yRn yE0:=fun k x=>by kernel_rfl
theorem xKg:zN tab (zM yUc) yM5 0 yRn:=⟨trivial,trivial,⟨trivial,trivial,⟨trivial,⟨trivial,trivial,⟨⟨fun _=>by kernel_rfl,fun k x=>by kernel_rfl⟩,⟨trivial,trivial,⟨trivial,⟨trivial,trivial⟩,⟨trivial,⟨trivial,trivial,⟨trivial,trivial,⟨trivial,trivial,trivial⟩⟩⟩,trivial⟩⟩⟩⟩⟩,⟨trivial,trivial,trivial⟩⟩⟩⟩
theorem xJw:zQ Tryz.prog 144 yE0:=zG yE zH mixed Tryz.func144 rfl (by decide+kernel) (by decide) (by decide) (by kernel_rfl) xKg xJy
noncomputable def yWy:Code:=match Tryz.f114.body with|some c=>c|none=> .skip
theorem xNh:zT tab (zM xBd) yVf Tryz.f114 yWy yMb:=fun k x=>by kernel_rfl
theorem xOu:zN tab (zM xBd) yVf 0 yWy:=⟨trivial,trivial,⟨trivial,trivial,trivial⟩⟩
theorem xOm:zQ Tryz.prog 114 yMb:=zG yE (zB xJw zH) mixed Tryz.func114 rfl (by decide+kernel) (by decide) (by decide) (by kernel_rfl) xOu xNh
noncomputable def yR3:Code:=match Tryz.f79.body with|some c=>c|none=> .skip
theorem xI9:zT tab (zM yTj) yOl Tryz.f79 yR3 zWm:=fun k x=>by kernel_rfl
theorem xKc:zN tab (zM yTj) yOl 0 yR3:=⟨trivial,trivial,⟨trivial,trivial,⟨trivial,trivial,trivial⟩⟩⟩
theorem yUu:zQ Tryz.prog 79 zWm:=zG yE (zB xOm zH) mixed Tryz.func79 rfl (by decide+kernel) (by decide) (by decide) (by kernel_rfl) xKc xI9
noncomputable def yRo:Code:=match Tryz.f122.body with|some c=>c|none=> .skip
theorem xKy:zT tab (zM yUv) yMt Tryz.f122 yRo yFa:=fun k x=>by kernel_rfl
theorem xI4:zN tab (zM yUv) yMt 0 yRo:=⟨trivial,trivial,⟨trivial,⟨trivial,trivial,⟨⟨trivial,trivial,trivial⟩,trivial⟩⟩,⟨trivial,trivial,trivial⟩⟩⟩
theorem xK0:zQ Tryz.prog 122 yFa:=zG yE (zB yUu (zB vG zH)) mixed Tryz.func122 rfl (by decide+kernel) (by decide) (by decide) (by kernel_rfl) xI4 xKy
noncomputable def yLk:Code:=match Tryz.f89.body with|some c=>c|none=> .skip
theorem xCh:zT tab (zM yOf) yIe Tryz.f89 yLk yAr:=fun k x=>by kernel_rfl
theorem xCk:zN tab (zM yOf) yIe 0 yLk:=⟨trivial,trivial,⟨trivial,trivial,⟨trivial,⟨trivial,trivial,⟨⟨trivial,trivial,trivial⟩,trivial⟩⟩,⟨trivial,⟨trivial,trivial,⟨⟨trivial,trivial,trivial⟩,trivial⟩⟩,⟨trivial,trivial,⟨fun k x=>by kernel_rfl,⟨trivial,trivial,⟨⟨trivial,trivial,trivial⟩,trivial⟩⟩,⟨trivial,trivial,trivial⟩⟩⟩⟩⟩⟩⟩
theorem xEe:zQ Tryz.prog 89 yAr:=zG yE (zB xCr (zB xK0 zH)) mixed Tryz.func89 rfl (by decide+kernel) (by decide) (by decide) (by kernel_rfl) xCk xCh
noncomputable def yN9:Code:=match Tryz.f90.body with|some c=>c|none=> .skip
theorem xGs:zT tab (zM yRf) yLg Tryz.f90 yN9 yB8:=fun k x=>by kernel_rfl
theorem xGp:zN tab (zM yRf) yLg 0 yN9:=⟨trivial,trivial,⟨trivial,trivial,trivial⟩⟩
theorem xF1:zQ Tryz.prog 90 yB8:=zG yE (zB vG zH) mixed Tryz.func90 rfl (by decide+kernel) (by decide) (by decide) (by kernel_rfl) xGp xGs
noncomputable def zXn:Code:=match Tryz.f123.body with|some c=>c|none=> .skip
theorem yPe:zT tab (zM zYt) zVn Tryz.f123 zXn zNt:=fun k x=>by kernel_rfl
theorem yQw:zN tab (zM zYt) zVn 0 zXn:=⟨trivial,trivial,⟨trivial,trivial,trivial⟩⟩
theorem yQj:zQ Tryz.prog 123 zNt:=zG yE zH mixed Tryz.func123 rfl (by decide+kernel) (by decide) (by decide) (by kernel_rfl) yQw yPe
noncomputable def zX1:Code:=match Tryz.f124.body with|some c=>c|none=> .skip
theorem yP5:zT tab (zM zZm) zV5 Tryz.f124 zX1 zN6:=fun k x=>by kernel_rfl
theorem yQ6:zN tab (zM zZm) zV5 0 zX1:=⟨trivial,trivial,⟨trivial,trivial,⟨trivial,⟨trivial,trivial,⟨⟨fun _=>by kernel_rfl,fun k x=>by kernel_rfl⟩,⟨trivial,trivial,⟨trivial,⟨trivial,trivial⟩,⟨trivial,⟨trivial,trivial,⟨trivial,⟨trivial,trivial,⟨trivial,trivial⟩⟩,⟨trivial,trivial,⟨trivial,trivial,⟨⟨trivial,trivial,trivial⟩,trivial⟩⟩⟩⟩⟩,trivial⟩⟩⟩⟩⟩,⟨trivial,trivial,trivial⟩⟩⟩⟩
theorem yO4:zQ Tryz.prog 124 zN6:=zG yE zH mixed Tryz.func124 rfl (by decide+kernel) (by decide) (by decide) (by kernel_rfl) yQ6 yP5
noncomputable def zXy:Code:=match Tryz.f125.body with|some c=>c|none=> .skip
theorem yQx:zT tab (zM zZy) zVw Tryz.f125 zXy zOb:=fun k x=>by kernel_rfl
theorem yQg:zN tab (zM zZy) zVw 0 zXy:=⟨trivial,trivial,⟨trivial,trivial⟩⟩
theorem yP4:zQ Tryz.prog 125 zOb:=zG yE zH mixed Tryz.func125 rfl (by decide+kernel) (by decide) (by decide) (by kernel_rfl) yQg yQx
noncomputable def zS2:Code:=match Tryz.f91.body with|some c=>c|none=> .skip
theorem yKf:zT tab (zM zUx) zSc Tryz.f91 zS2 zJp:=fun k x=>by kernel_rfl
theorem yKd:zN tab (zM zUx) zSc 0 zS2:=⟨trivial,trivial,⟨trivial,⟨trivial,trivial,⟨⟨trivial,trivial,trivial⟩,trivial⟩⟩,⟨trivial,trivial,⟨trivial,⟨trivial,trivial,⟨trivial,trivial⟩⟩,⟨trivial,trivial,⟨trivial,trivial,trivial⟩⟩⟩⟩⟩⟩
theorem yKe:zQ Tryz.prog 91 zJp:=zG yE (zB yQj (zB yO4 (zB yP4 zH))) mixed Tryz.func91 rfl (by decide+kernel) (by decide) (by decide) (by kernel_rfl) yKd yKf
noncomputable def zY3:Code:=match Tryz.f92.body with|some c=>c|none=> .skip
theorem ySh:zT tab (zM yBh) zX7 Tryz.f92 zY3 zPx:=fun k x=>by kernel_rfl
theorem ySj:zN tab (zM yBh) zX7 0 zY3:=⟨trivial,trivial,⟨trivial,⟨trivial,trivial,⟨⟨trivial,trivial,trivial⟩,trivial⟩⟩,⟨trivial,trivial,trivial⟩⟩⟩
theorem yR7:zQ Tryz.prog 92 zPx:=zG yE zH mixed Tryz.func92 rfl (by decide+kernel) (by decide) (by decide) (by kernel_rfl) ySj ySh
noncomputable def zYe:Code:=match Tryz.f93.body with|some c=>c|none=> .skip
theorem yPh:zT tab (zM zYr) zVh Tryz.f93 zYe zOq:=fun k x=>by kernel_rfl
theorem yQn:zN tab (zM zYr) zVh 0 zYe:=⟨trivial,trivial,⟨trivial,⟨trivial,trivial,⟨⟨trivial,trivial,trivial⟩,trivial⟩⟩,⟨trivial,trivial,trivial⟩⟩⟩
theorem yQe:zQ Tryz.prog 93 zOq:=zG yE zH mixed Tryz.func93 rfl (by decide+kernel) (by decide) (by decide) (by kernel_rfl) yQn yPh
noncomputable def yKg:Code:=match Tryz.f63.body with|some c=>c|none=> .skip
theorem xEi:zT tab (zM yMv) yIy Tryz.f63 yKg zZx:=fun k x=>by kernel_rfl
theorem xDk:zN tab (zM yMv) yIy 0 yKg:=⟨trivial,trivial,⟨trivial,trivial,⟨trivial,⟨trivial,trivial,⟨⟨trivial,trivial,trivial⟩,trivial⟩⟩,⟨trivial,trivial,⟨trivial,trivial,⟨trivial,⟨trivial,trivial,⟨⟨trivial,trivial,trivial⟩,trivial⟩⟩,⟨trivial,trivial,trivial⟩⟩⟩⟩⟩⟩⟩
theorem xD1:zQ Tryz.prog 63 zZx:=zG yE (zB xEe (zB xF1 (zB yKe (zB yR7 (zB yQe zH))))) mixed Tryz.func63 rfl (by decide+kernel) (by decide) (by decide) (by kernel_rfl) xDk xEi
noncomputable def yRb:Code:=match Tryz.f28.body with|some c=>c|none=> .skip
theorem xJh:zT tab (zM yT6) yOv Tryz.f28 yRb yE9:=fun k x=>by kernel_rfl
theorem xJ4:zN tab (zM yT6) yOv 0 yRb:=⟨trivial,trivial,⟨trivial,trivial,⟨trivial,trivial,⟨trivial,⟨trivial,trivial,⟨⟨fun _=>by kernel_rfl,fun k x=>by kernel_rfl⟩,⟨trivial,trivial,⟨trivial,⟨trivial,trivial⟩,⟨trivial,⟨trivial,trivial,⟨trivial,trivial,⟨trivial,⟨trivial,trivial,⟨trivial,trivial⟩⟩,⟨fun k x=>by kernel_rfl,⟨trivial,trivial,⟨trivial,trivial⟩⟩,⟨trivial,trivial,⟨trivial,⟨trivial,trivial,⟨⟨fun _=>by kernel_rfl,fun k x=>by kernel_rfl⟩,⟨trivial,⟨trivial,trivial,⟨trivial,trivial⟩⟩,⟨trivial,trivial,⟨trivial,⟨fun k x=>by kernel_rfl,trivial,⟨⟨trivial,trivial,trivial⟩,trivial⟩⟩,⟨fun k x=>by kernel_rfl,⟨trivial,trivial,⟨trivial,trivial⟩⟩,⟨trivial,trivial,⟨trivial,trivial,⟨trivial,trivial,⟨trivial,trivial,⟨⟨trivial,trivial,⟨trivial,trivial,trivial⟩⟩,trivial⟩⟩⟩⟩⟩⟩⟩⟩⟩⟩⟩,trivial⟩⟩⟩⟩⟩⟩,trivial⟩⟩⟩⟩⟩,⟨trivial,trivial,trivial⟩⟩⟩⟩⟩
theorem xJz:zQ Tryz.prog 28 yE9:=zG yE (zB yM7 (zB xD1 zH)) mixed Tryz.func28 rfl (by decide+kernel) (by decide) (by decide) (by kernel_rfl) xJ4 xJh
theorem xJ6:zQ Tryz.prog 29 yRg:=xF9
noncomputable def zYf:Code:=match Tryz.f31.body with|some c=>c|none=> .skip
theorem yP6:zT tab (zM yAl) zVp Tryz.f31 zYf zCi:=fun k x=>by kernel_rfl
theorem yPu:zN tab (zM yAl) zVp 0 zYf:=⟨trivial,trivial,⟨trivial,trivial,⟨trivial,⟨trivial,trivial,⟨trivial,trivial⟩⟩,⟨trivial,trivial,trivial⟩⟩⟩⟩
theorem zO7:zQ Tryz.prog 31 zCi:=zG yE (zB zSs zH) mixed Tryz.func31 rfl (by decide+kernel) (by decide) (by decide) (by kernel_rfl) yPu yP6
theorem xF2:zUo Tryz.prog 64 yB4:=xIm
theorem yYz:zQ Tryz.prog 68 yFp:=xTn Tryz.laysItoa (g:=6) (by kernel_rfl) rfl (⟨_,Tryz.func68,by decide+kernel,by kernel_rfl⟩)
theorem yTy:zQ Tryz.prog 69 yBi:=xQo Tryz.laysRepeat Tryz.extraRepeat (⟨_,Tryz.func69,by decide+kernel,by kernel_rfl⟩)
noncomputable def yRz:Code:=match Tryz.f33.body with|some c=>c|none=> .skip
theorem xJa:zT tab (zM yTt) yOc Tryz.f33 yRz zG5:=fun k x=>by kernel_rfl
theorem xKq:zN tab (zM yTt) yOc 0 yRz:=⟨trivial,trivial,⟨trivial,trivial,⟨trivial,trivial,trivial⟩⟩⟩
theorem zS0:zQ Tryz.prog 33 zG5:=zG yE (zB yYz (zB yTy zH)) mixed Tryz.func33 rfl (by decide+kernel) (by decide) (by decide) (by kernel_rfl) xKq xJa
noncomputable def zXp:Code:=match Tryz.f34.body with|some c=>c|none=> .skip
theorem yPy:zT tab (zM zYm) zVz Tryz.f34 zXp zCs:=fun k x=>by kernel_rfl
theorem yO7:zN tab (zM zYm) zVz 0 zXp:=⟨trivial,trivial,⟨trivial,⟨trivial,trivial,⟨⟨trivial,trivial,trivial⟩,trivial⟩⟩,⟨trivial,trivial,trivial⟩⟩⟩
theorem zP7:zQ Tryz.prog 34 zCs:=zG yE zH mixed Tryz.func34 rfl (by decide+kernel) (by decide) (by decide) (by kernel_rfl) yO7 yPy
noncomputable def yDu:Code:=match Tryz.f32.body with|some c=>c|none=> .skip
theorem yWb:zT tab (zM yGd) yBj Tryz.f32 yDu zKo:=fun k x=>by kernel_rfl
theorem yWo:zN tab (zM yGd) yBj 0 yDu:=⟨trivial,trivial,⟨trivial,trivial,⟨trivial,⟨trivial,trivial,⟨⟨trivial,trivial,trivial⟩,trivial⟩⟩,⟨trivial,⟨trivial,trivial,⟨⟨trivial,trivial,trivial⟩,trivial⟩⟩,⟨trivial,trivial,⟨trivial,trivial,trivial⟩⟩⟩⟩⟩⟩
theorem yF5:zQ Tryz.prog 32 zKo:=zG yE (zB zSs (zB vG zH)) mixed Tryz.func32 rfl (by decide+kernel) (by decide) (by decide) (by kernel_rfl) yWo yWb
noncomputable def yR4:Code:=match Tryz.f7.body with|some c=>c|none=> .skip
theorem xHz:zT tab (zM yU1) yMr Tryz.f7 yR4 zWr:=fun k x=>by kernel_rfl
theorem xJv:zN tab (zM yU1) yMr 0 yR4:=⟨trivial,trivial,⟨trivial,⟨trivial,trivial,⟨⟨trivial,trivial,trivial⟩,trivial⟩⟩,⟨trivial,trivial,⟨fun k x=>by kernel_rfl,trivial,⟨trivial,trivial,⟨trivial,trivial,⟨trivial,⟨trivial,trivial,⟨trivial,trivial⟩⟩,⟨trivial,⟨trivial,trivial,⟨⟨⟨[(0, .ptr 2000000 0),(1, .ptr 500000 0),(5, .dref 500001),(7, .ptr 500002 0),(8, .ptr 500003 0)], [.val 41 (.box 64 (.slice (.pair .str (.pair (.slice (.int .u8)) (.int .i64))))), .cells 2000000 [.stat (.mref 1000000)], .cells 500000 [.stat (.ptr 2000000 0)], .segs 500001, .cells 500002 [.stat (.ptr 2000000 0), .stat (.dref 500001)], .cells 500003 [.dyn (.int .i64)], .pm 1000000]⟩,(.pair .str (.pair (.slice (.int .u8)) (.int .i64))),64,41,42,43,fun x=>x.1,fun k i e x=>zQo k i e x.1 x.2.1 x.2.2.1 x.2.2.2.1 x.2.2.2.2.1 x.2.2.2.2.2.1 x.2.2.2.2.2.2,yB4,rfl,rfl,rfl,rfl,List.mem_of_getElem? (i:=0) (by kernel_rfl),rfl,fun x=>by kernel_rfl,fun k i e x=>by kernel_rfl,by kernel_rfl⟩,⟨trivial,⟨trivial,trivial,⟨trivial,trivial,⟨trivial,trivial⟩⟩⟩⟩⟩⟩,⟨trivial,⟨trivial,trivial,⟨⟨trivial,trivial,trivial⟩,trivial⟩⟩,⟨trivial,trivial,trivial⟩⟩⟩⟩⟩⟩⟩⟩⟩⟩
theorem yS3:zQ Tryz.prog 7 zWr:=zG yE (zB zS4 (zB yBo (zB xJz (zB xJ6 (zB yM7 (zB zO7 (zRd xF2 (zB zS0 (zB zP7 (zB yF5 zH)))))))))) mixed Tryz.func7 rfl (by decide+kernel) (by decide) (by decide) (by kernel_rfl) xJv xHz
noncomputable def yJl:Code:=match Tryz.f8.body with|some c=>c|none=> .skip
theorem xAo:zT tab (zM yKs) yFr Tryz.f8 yJl zXa:=fun k x=>by kernel_rfl
theorem xAw:zN tab (zM yKs) yFr 0 yJl:=⟨trivial,trivial,⟨trivial,trivial,⟨trivial,⟨trivial,trivial,⟨⟨fun _=>by kernel_rfl,fun k x=>by kernel_rfl⟩,⟨trivial,⟨trivial,trivial,⟨trivial,trivial⟩⟩,⟨trivial,⟨trivial,trivial,⟨trivial,trivial,⟨⟨trivial,trivial,trivial⟩,trivial⟩⟩⟩,trivial⟩⟩⟩⟩,⟨trivial,trivial,trivial⟩⟩⟩⟩
theorem xBj:zQ Tryz.prog 8 zXa:=zG yE zH mixed Tryz.func8 rfl (by decide+kernel) (by decide) (by decide) (by kernel_rfl) xAw xAo
noncomputable def yKm:Code:=match Tryz.f35.body with|some c=>c|none=> .skip
theorem xCq:zT tab (zM yN3) yIg Tryz.f35 yKm zBj:=fun k x=>by kernel_rfl
theorem xD8:zN tab (zM yN3) yIg 0 yKm:=⟨trivial,trivial,⟨trivial,trivial,trivial⟩⟩
theorem zIm:zQ Tryz.prog 35 zBj:=zG yE zH mixed Tryz.func35 rfl (by decide+kernel) (by decide) (by decide) (by kernel_rfl) xD8 xCq
noncomputable def zBe:Code:=match Tryz.f76.body with|some c=>c|none=> .skip
theorem zMz:zT tab (zM zBp) zA1 Tryz.f76 zBe zBf:=fun k x=>by kernel_rfl
theorem zMq:zN tab (zM zBp) zA1 0 zBe:=⟨trivial,trivial,⟨trivial,⟨trivial,trivial,⟨⟨trivial,trivial,trivial⟩,trivial⟩⟩,⟨trivial,trivial,trivial⟩⟩⟩
theorem zMk:zQ Tryz.prog 76 zBf:=zG yE zH mixed Tryz.func76 rfl (by decide+kernel) (by decide) (by decide) (by kernel_rfl) zMq zMz
noncomputable def zC1:Code:=match Tryz.f76.body with|some c=>c|none=> .skip
theorem zPs:zT tab (zM zDq) zCr Tryz.f76 zC1 zB8:=fun k x=>by kernel_rfl
theorem zPr:zN tab (zM zDq) zCr 0 zC1:=⟨trivial,trivial,⟨trivial,⟨trivial,trivial,⟨⟨trivial,trivial,trivial⟩,trivial⟩⟩,⟨trivial,trivial,trivial⟩⟩⟩
theorem zO1:zQ Tryz.prog 76 zB8:=zG yE zH mixed Tryz.func76 rfl (by decide+kernel) (by decide) (by decide) (by kernel_rfl) zPr zPs
theorem zP8:zQ Tryz.prog 76 zC0:=xFt zMk zO1 (fun _ _ _=>rfl) (fun _ _=>by kernel_rfl)
noncomputable def zBi:Code:=match Tryz.f70.body with|some c=>c|none=> .skip
theorem zMl:zT tab (zM zBn) zA5 Tryz.f70 zBi wT:=fun k x=>by kernel_rfl
theorem zMx:zN tab (zM zBn) zA5 0 zBi:=⟨trivial,trivial,⟨trivial,⟨trivial,trivial,⟨⟨fun _=>by kernel_rfl,fun k x=>by kernel_rfl⟩,⟨trivial,trivial,⟨trivial,⟨trivial,trivial⟩,⟨trivial,⟨trivial,trivial,⟨trivial,trivial,⟨⟨trivial,trivial,trivial⟩,trivial⟩⟩⟩,trivial⟩⟩⟩⟩⟩,⟨trivial,trivial,trivial⟩⟩⟩
theorem zBr:zQ Tryz.prog 70 wT:=zG yE zH mixed Tryz.func70 rfl (by decide+kernel) (by decide) (by decide) (by kernel_rfl) zMx zMl
noncomputable def zA3:Code:=match Tryz.f75.body with|some c=>c|none=> .skip
theorem zL5:zT tab (zM zBh) zAr Tryz.f75 zA3 jF:=fun k x=>by kernel_rfl
theorem zK6:zN tab (zM zBh) zAr 0 zA3:=⟨trivial,trivial,⟨trivial,trivial,⟨trivial,⟨trivial,trivial,⟨⟨trivial,trivial,trivial⟩,trivial⟩⟩,⟨trivial,⟨trivial,trivial,⟨⟨fun _=>by kernel_rfl,fun k x=>by kernel_rfl⟩,⟨trivial,⟨trivial,trivial,⟨trivial,trivial⟩⟩,⟨trivial,⟨trivial,trivial,⟨trivial,trivial,⟨⟨trivial,trivial,trivial⟩,trivial⟩⟩⟩,trivial⟩⟩⟩⟩,⟨trivial,trivial,⟨trivial,trivial,trivial⟩⟩⟩⟩⟩⟩
theorem zLk:zQ Tryz.prog 75 jF:=zG yE (zB zBr zH) mixed Tryz.func75 rfl (by decide+kernel) (by decide) (by decide) (by kernel_rfl) zK6 zL5
noncomputable def yBk:Code:=match Tryz.f77.body with|some c=>c|none=> .skip
theorem yT4:zT tab (zM yDz) zZ7 Tryz.f77 yBk zRv:=fun k x=>by kernel_rfl
theorem yTp:zN tab (zM yDz) zZ7 0 yBk:=⟨trivial,trivial,⟨trivial,trivial,trivial⟩⟩
theorem yTm:zQ Tryz.prog 77 zRv:=zG yE zH mixed Tryz.func77 rfl (by decide+kernel) (by decide) (by decide) (by kernel_rfl) yTp yT4
noncomputable def yFs:Code:=match Tryz.f40.body with|some c=>c|none=> .skip
theorem yXz:zT tab (zM yJ4) yD7 Tryz.f40 yFs zNc:=fun k x=>by kernel_rfl
theorem yY0:zN tab (zM yJ4) yD7 0 yFs:=⟨trivial,trivial,⟨trivial,⟨trivial,trivial,⟨⟨trivial,trivial,trivial⟩,trivial⟩⟩,⟨trivial,trivial,trivial⟩⟩⟩
theorem yIl:zQ Tryz.prog 40 zNc:=zG yE (zB zIm (zB zP8 (zB zLk (zB yTm zH)))) mixed Tryz.func40 rfl (by decide+kernel) (by decide) (by decide) (by kernel_rfl) yY0 yXz
noncomputable def zX5:Code:=match Tryz.f41.body with|some c=>c|none=> .skip
theorem yOx:zT tab (zM zYo) zVt Tryz.f41 zX5 zCn:=fun k x=>by kernel_rfl
theorem yPc:zN tab (zM zYo) zVt 0 zX5:=⟨trivial,trivial,⟨trivial,trivial,trivial⟩⟩
theorem zPu:zQ Tryz.prog 41 zCn:=zG yE zH mixed Tryz.func41 rfl (by decide+kernel) (by decide) (by decide) (by kernel_rfl) yPc yOx
noncomputable def yGr:Code:=match Tryz.f13.body with|some c=>c|none=> .skip
theorem yX1:zT tab (zM yJz) yDk Tryz.f13 yGr zD4:=fun k x=>by kernel_rfl
theorem yX3:zN tab (zM yJz) yDk 0 yGr:=⟨trivial,trivial,⟨trivial,trivial,⟨trivial,⟨trivial,trivial,⟨⟨trivial,trivial,trivial⟩,trivial⟩⟩,⟨trivial,trivial,trivial⟩⟩⟩⟩
theorem zQb:zQ Tryz.prog 13 zD4:=zG yE (zB yIl (zB zPu zH)) mixed Tryz.func13 rfl (by decide+kernel) (by decide) (by decide) (by kernel_rfl) yX3 yX1
theorem yAj:zUo Tryz.prog 36 zPz:=xLu
noncomputable def yFy:Code:=match Tryz.f9.body with|some c=>c|none=> .skip
theorem yYk:zT tab (zM yIo) yD8 Tryz.f9 yFy zNr:=fun k x=>by kernel_rfl
theorem yYn:zN tab (zM yIo) yD8 0 yFy:=⟨trivial,trivial,⟨trivial,trivial⟩⟩
theorem yJo:zQ Tryz.prog 9 zNr:=zG yE (zB zIm (zRd yAj (zB zS0 (zB zS4 zH)))) mixed Tryz.func9 rfl (by decide+kernel) (by decide) (by decide) (by kernel_rfl) yYn yYk
noncomputable def yFv:Code:=match Tryz.f50.body with|some c=>c|none=> .skip
theorem yYy:zT tab (zM yI8) yDy Tryz.f50 yFv zHn:=fun k x=>by kernel_rfl
theorem yX0:zN tab (zM yI8) yDy 0 yFv:=⟨trivial,trivial,⟨trivial,⟨trivial,trivial,⟨⟨trivial,trivial,trivial⟩,trivial⟩⟩,⟨trivial,trivial,⟨trivial,⟨trivial,trivial,⟨⟨fun _=>by kernel_rfl,fun k x=>by kernel_rfl⟩,⟨trivial,⟨trivial,trivial,⟨trivial,trivial⟩⟩,⟨trivial,⟨trivial,⟨trivial,trivial,⟨⟨trivial,trivial,trivial⟩,trivial⟩⟩,trivial⟩,trivial⟩⟩⟩⟩,⟨trivial,trivial,trivial⟩⟩⟩⟩⟩
theorem zXe:zQ Tryz.prog 50 zHn:=zG yE zH mixed Tryz.func50 rfl (by decide+kernel) (by decide) (by decide) (by kernel_rfl) yX0 yYy
noncomputable def yKn:Code:=match Tryz.f147.body with|some c=>c|none=> .skip
theorem xD5:zT tab (zM yM6) yJv Tryz.f147 yKn yAy:=fun k x=>by kernel_rfl
theorem xDj:zN tab (zM yM6) yJv 0 yKn:=⟨trivial,trivial,⟨trivial,⟨trivial,trivial,⟨⟨trivial,trivial,trivial⟩,trivial⟩⟩,⟨trivial,trivial,⟨trivial,trivial,trivial⟩⟩⟩⟩
theorem xD6:zQ Tryz.prog 147 yAy:=zG yE zH mixed Tryz.func147 rfl (by decide+kernel) (by decide) (by decide) (by kernel_rfl) xDj xD5
noncomputable def yI3:Code:=match Tryz.f148.body with|some c=>c|none=> .skip
theorem xBi:zT tab (zM yLx) yFw Tryz.f148 yI3 zXf:=fun k x=>by kernel_rfl
theorem xBf:zN tab (zM yLx) yFw 0 yI3:=⟨trivial,trivial,⟨⟨trivial,trivial,trivial⟩,trivial⟩⟩
theorem xBz:zQ Tryz.prog 148 zXf:=zG yE zH mixed Tryz.func148 rfl (by decide+kernel) (by decide) (by decide) (by kernel_rfl) xBf xBi
noncomputable def zVk:Code:=match Tryz.f116.body with|some c=>c|none=> .skip
theorem yOe:zT tab (zM zX2) zUy Tryz.f116 zVk zFj:=fun k x=>by kernel_rfl
theorem yMq:zN tab (zM zX2) zUy 0 zVk:=⟨trivial,trivial,⟨trivial,trivial,⟨trivial,trivial,⟨trivial,⟨trivial,trivial,⟨⟨fun _=>by kernel_rfl,fun k x=>by kernel_rfl⟩,⟨trivial,⟨trivial,trivial,⟨trivial,trivial⟩⟩,⟨trivial,⟨trivial,trivial,⟨trivial,⟨trivial,trivial,⟨trivial,trivial⟩⟩,⟨trivial,trivial,⟨trivial,⟨trivial,trivial,⟨trivial,trivial⟩⟩,⟨trivial,trivial,⟨trivial,trivial,⟨⟨trivial,⟨trivial,trivial,⟨trivial,trivial⟩⟩,⟨trivial,trivial,trivial⟩⟩,trivial⟩⟩⟩⟩⟩⟩⟩,trivial⟩⟩⟩⟩,⟨trivial,trivial,⟨trivial,trivial,trivial⟩⟩⟩⟩⟩⟩
theorem zYc:zQ Tryz.prog 116 zFj:=zG yE (zB xD6 (zB xBz zH)) mixed Tryz.func116 rfl (by decide+kernel) (by decide) (by decide) (by kernel_rfl) yMq yOe
noncomputable def yEt:Code:=match Tryz.f56.body with|some c=>c|none=> .skip
theorem yWs:zT tab (zM yFo) yBb Tryz.f56 yEt zCo:=fun k x=>by kernel_rfl
theorem yWq:zN tab (zM yFo) yBb 0 yEt:=⟨trivial,trivial,⟨trivial,trivial,⟨trivial,⟨⟨fun _=>by kernel_rfl,fun k x=>by kernel_rfl⟩,⟨trivial,⟨trivial,trivial,⟨trivial,trivial⟩⟩,⟨trivial,trivial,trivial⟩⟩⟩,⟨trivial,trivial,trivial⟩⟩⟩⟩
theorem zNk:zQ Tryz.prog 56 zCo:=zG yE zH mixed Tryz.func56 rfl (by decide+kernel) (by decide) (by decide) (by kernel_rfl) yWq yWs
noncomputable def yI9:Code:=match Tryz.f145.body with|some c=>c|none=> .skip
theorem yZv:zT tab (zM yLh) yGs Tryz.f145 yI9 zWx:=fun k x=>by kernel_rfl
theorem xB4:zN tab (zM yLh) yGs 0 yI9:=⟨trivial,trivial,⟨trivial,trivial,⟨trivial,trivial,⟨trivial,trivial,trivial⟩⟩⟩⟩
theorem xBr:zQ Tryz.prog 145 zWx:=zG yE (zB zYc (zB zNk zH)) mixed Tryz.func145 rfl (by decide+kernel) (by decide) (by decide) (by kernel_rfl) xB4 yZv
noncomputable def yRt:Code:=match Tryz.f117.body with|some c=>c|none=> .skip
theorem xHs:zT tab (zM yT9) yNf Tryz.f117 yRt yE4:=fun k x=>by kernel_rfl
theorem xKz:zN tab (zM yT9) yNf 0 yRt:=⟨trivial,trivial,⟨trivial,trivial,⟨trivial,⟨trivial,trivial,⟨⟨fun _=>by kernel_rfl,fun k x=>by kernel_rfl⟩,⟨trivial,⟨trivial,trivial,⟨trivial,trivial⟩⟩,⟨trivial,⟨trivial,trivial,⟨⟨fun _=>by kernel_rfl,fun k x=>by kernel_rfl⟩,⟨trivial,⟨trivial,trivial,⟨trivial,trivial⟩⟩,⟨trivial,⟨trivial,trivial,⟨trivial,trivial,⟨trivial,trivial,⟨trivial,trivial⟩⟩⟩⟩,trivial⟩⟩⟩⟩,trivial⟩⟩⟩⟩,⟨trivial,trivial,trivial⟩⟩⟩⟩
theorem xJe:zQ Tryz.prog 117 yE4:=zG yE zH mixed Tryz.func117 rfl (by decide+kernel) (by decide) (by decide) (by kernel_rfl) xKz xHs
noncomputable def yLr:Code:=match Tryz.f86.body with|some c=>c|none=> .skip
theorem xEf:zT tab (zM yNo) yIw Tryz.f86 yLr zR4:=fun k x=>by kernel_rfl
theorem xCw:zN tab (zM yNo) yIw 0 yLr:=⟨trivial,trivial,⟨trivial,trivial,⟨trivial,trivial,trivial⟩⟩⟩
theorem yNy:zQ Tryz.prog 86 zR4:=zG yE (zB xJe zH) mixed Tryz.func86 rfl (by decide+kernel) (by decide) (by decide) (by kernel_rfl) xCw xEf
noncomputable def yKl:Code:=match Tryz.f146.body with|some c=>c|none=> .skip
theorem xD2:zT tab (zM yN5) yJ2 Tryz.f146 yKl zYp:=fun k x=>by kernel_rfl
theorem xC6:zN tab (zM yN5) yJ2 0 yKl:=⟨trivial,trivial,⟨trivial,⟨trivial,trivial,⟨⟨trivial,trivial,trivial⟩,trivial⟩⟩,⟨trivial,⟨trivial,trivial,⟨⟨fun _=>by kernel_rfl,fun k x=>by kernel_rfl⟩,⟨trivial,⟨trivial,trivial,⟨trivial,trivial⟩⟩,⟨trivial,⟨trivial,trivial,⟨⟨trivial,trivial,trivial⟩,trivial⟩⟩,trivial⟩⟩⟩⟩,⟨trivial,trivial,trivial⟩⟩⟩⟩
theorem xDi:zQ Tryz.prog 146 zYp:=zG yE zH mixed Tryz.func146 rfl (by decide+kernel) (by decide) (by decide) (by kernel_rfl) xC6 xD2
noncomputable def yLf:Code:=match Tryz.f115.body with|some c=>c|none=> .skip
theorem xDh:zT tab (zM yM3) yKa Tryz.f115 yLf zY5:=fun k x=>by kernel_rfl
theorem xDq:zN tab (zM yM3) yKa 0 yLf:=⟨trivial,trivial,⟨trivial,⟨trivial,trivial,⟨⟨fun _=>by kernel_rfl,fun k x=>by kernel_rfl⟩,⟨trivial,⟨trivial,trivial,⟨trivial,trivial⟩⟩,⟨trivial,⟨trivial,trivial,⟨trivial,⟨trivial,trivial,⟨trivial,trivial⟩⟩,⟨trivial,⟨trivial,trivial,⟨⟨trivial,trivial,trivial⟩,trivial⟩⟩,⟨trivial,⟨trivial,trivial,⟨⟨trivial,trivial,trivial⟩,trivial⟩⟩,⟨trivial,trivial,⟨trivial,⟨trivial,trivial,⟨⟨trivial,trivial,trivial⟩,trivial⟩⟩,⟨trivial,trivial,trivial⟩⟩⟩⟩⟩⟩⟩,trivial⟩⟩⟩⟩,⟨trivial,⟨trivial,trivial,⟨⟨trivial,trivial,trivial⟩,trivial⟩⟩,⟨trivial,trivial,trivial⟩⟩⟩⟩
theorem xCd:zQ Tryz.prog 115 zY5:=zG yE (zB xBr (zB yNy (zB xDi zH))) mixed Tryz.func115 rfl (by decide+kernel) (by decide) (by decide) (by kernel_rfl) xDq xDh
noncomputable def yM0:Code:=match Tryz.f81.body with|some c=>c|none=> .skip
theorem xGo:zT tab (zM yRc) yL2 Tryz.f81 yM0 yB9:=fun k x=>by kernel_rfl
theorem xF6:zN tab (zM yRc) yL2 0 yM0:=⟨trivial,trivial,⟨trivial,trivial,⟨trivial,⟨trivial,trivial,⟨⟨trivial,trivial,trivial⟩,trivial⟩⟩,⟨trivial,⟨trivial,trivial,⟨⟨fun _=>by kernel_rfl,fun k x=>by kernel_rfl⟩,⟨trivial,⟨trivial,trivial,⟨trivial,trivial⟩⟩,⟨trivial,⟨trivial,trivial,⟨trivial,trivial,⟨trivial,trivial,⟨⟨trivial,⟨trivial,trivial,⟨⟨trivial,trivial,trivial⟩,trivial⟩⟩,⟨trivial,trivial,trivial⟩⟩,trivial⟩⟩⟩⟩,trivial⟩⟩⟩⟩,⟨trivial,trivial,trivial⟩⟩⟩⟩⟩
theorem xF8:zQ Tryz.prog 81 yB9:=zG yE (zB xCd (zB zYc (zB zNk zH))) mixed Tryz.func81 rfl (by decide+kernel) (by decide) (by decide) (by kernel_rfl) xF6 xGo
noncomputable def yBn:Code:=match Tryz.f45.body with|some c=>c|none=> .skip
theorem yU6:zT tab (zM yEv) zYk Tryz.f45 yBn jM:=fun k x=>by kernel_rfl
theorem yT1:zN tab (zM yEv) zYk 0 yBn:=⟨trivial,trivial,⟨trivial,trivial,⟨trivial,trivial,⟨trivial,trivial,⟨trivial,⟨trivial,trivial,⟨⟨fun _=>by kernel_rfl,fun k x=>by kernel_rfl⟩,⟨trivial,⟨trivial,trivial,⟨trivial,trivial⟩⟩,⟨trivial,⟨trivial,trivial,⟨trivial,⟨trivial,trivial,⟨trivial,trivial⟩⟩,⟨trivial,⟨trivial,trivial,⟨⟨trivial,trivial,trivial⟩,trivial⟩⟩,⟨trivial,trivial,⟨trivial,trivial,⟨trivial,trivial,⟨trivial,⟨⟨fun _=>by kernel_rfl,fun k x=>by kernel_rfl⟩,⟨trivial,⟨trivial,trivial,⟨trivial,trivial⟩⟩,⟨trivial,trivial,⟨trivial,⟨trivial,trivial,⟨⟨trivial,trivial,trivial⟩,trivial⟩⟩,⟨trivial,trivial,⟨trivial,trivial,⟨trivial,trivial,⟨trivial,trivial,⟨trivial,trivial,⟨⟨trivial,trivial,trivial⟩,trivial⟩⟩⟩⟩⟩⟩⟩⟩⟩⟩,trivial⟩⟩⟩⟩⟩⟩⟩,trivial⟩⟩⟩⟩,⟨trivial,trivial,trivial⟩⟩⟩⟩⟩⟩
theorem zCf:zQ Tryz.prog 45 jM:=zG yE (zB zXe (zB xF8 zH)) mixed Tryz.func45 rfl (by decide+kernel) (by decide) (by decide) (by kernel_rfl) yT1 yU6
noncomputable def yJ1:Code:=match Tryz.f82.body with|some c=>c|none=> .skip
theorem xB1:zT tab (zM yLj) yGe Tryz.f82 yJ1 zE7:=fun k x=>by kernel_rfl
theorem xBg:zN tab (zM yLj) yGe 0 yJ1:=⟨trivial,trivial,⟨trivial,⟨trivial,trivial,⟨⟨fun _=>by kernel_rfl,fun k x=>by kernel_rfl⟩,⟨trivial,⟨trivial,trivial,⟨trivial,trivial⟩⟩,⟨trivial,⟨trivial,trivial,⟨⟨trivial,trivial,trivial⟩,trivial⟩⟩,trivial⟩⟩⟩⟩,⟨trivial,trivial,trivial⟩⟩⟩
theorem zR9:zQ Tryz.prog 82 zE7:=zG yE zH mixed Tryz.func82 rfl (by decide+kernel) (by decide) (by decide) (by kernel_rfl) xBg xB1
noncomputable def yM8:Code:=match Tryz.f83.body with|some c=>c|none=> .skip
theorem xG9:zT tab (zM yRp) yLl Tryz.f83 yM8 zOu:=fun k x=>by kernel_rfl
theorem xGv:zN tab (zM yRp) yLl 0 yM8:=⟨trivial,trivial,⟨trivial,trivial,⟨trivial,trivial,⟨trivial,⟨trivial,trivial,⟨⟨fun _=>by kernel_rfl,fun k x=>by kernel_rfl⟩,⟨trivial,⟨trivial,trivial,⟨trivial,trivial⟩⟩,⟨trivial,⟨trivial,⟨trivial,trivial,⟨⟨trivial,trivial,trivial⟩,trivial⟩⟩,⟨trivial,trivial,⟨trivial,trivial⟩⟩⟩,trivial⟩⟩⟩⟩,⟨trivial,⟨trivial,trivial,⟨trivial,trivial⟩⟩,⟨trivial,trivial,trivial⟩⟩⟩⟩⟩⟩
theorem yFd:zQ Tryz.prog 83 zOu:=zG yE zH mixed Tryz.func83 rfl (by decide+kernel) (by decide) (by decide) (by kernel_rfl) xGv xG9
noncomputable def yL5:Code:=match Tryz.f46.body with|some c=>c|none=> .skip
theorem xDr:zT tab (zM yMy) yJd Tryz.f46 yL5 zSk:=fun k x=>by kernel_rfl
theorem xCp:zN tab (zM yMy) yJd 0 yL5:=⟨trivial,trivial,⟨trivial,trivial,⟨trivial,⟨trivial,trivial,⟨⟨trivial,trivial,trivial⟩,trivial⟩⟩,⟨trivial,trivial,⟨trivial,trivial,⟨trivial,trivial,trivial⟩⟩⟩⟩⟩⟩
theorem yNx:zQ Tryz.prog 46 zSk:=zG yE (zB zR9 (zB yFd zH)) mixed Tryz.func46 rfl (by decide+kernel) (by decide) (by decide) (by kernel_rfl) xCp xDr
noncomputable def yLq:Code:=match Tryz.f16.body with|some c=>c|none=> .skip
theorem xEo:zT tab (zM yNz) yJi Tryz.f16 yLq yAa:=fun k x=>by kernel_rfl
theorem xDy:zN tab (zM yNz) yJi 0 yLq:=⟨trivial,trivial,⟨trivial,trivial,⟨trivial,⟨trivial,trivial,⟨trivial,trivial⟩⟩,⟨trivial,trivial,trivial⟩⟩⟩⟩
theorem xCb:zQ Tryz.prog 16 yAa:=zG yE (zB zCf (zB yNx zH)) mixed Tryz.func16 rfl (by decide+kernel) (by decide) (by decide) (by kernel_rfl) xDy xEo
noncomputable def yKh:Code:=match Tryz.f57.body with|some c=>c|none=> .skip
theorem xCm:zT tab (zM yNc) yJh Tryz.f57 yKh yA0:=fun k x=>by kernel_rfl
theorem xDz:zN tab (zM yNc) yJh 0 yKh:=⟨trivial,trivial,⟨trivial,⟨trivial,trivial,⟨⟨trivial,trivial,trivial⟩,trivial⟩⟩,⟨trivial,⟨trivial,trivial,⟨⟨fun _=>by kernel_rfl,fun k x=>by kernel_rfl⟩,⟨trivial,⟨trivial,trivial,⟨trivial,trivial⟩⟩,⟨trivial,⟨trivial,trivial,⟨⟨trivial,trivial,trivial⟩,trivial⟩⟩,trivial⟩⟩⟩⟩,⟨trivial,trivial,trivial⟩⟩⟩⟩
theorem xCy:zQ Tryz.prog 57 yA0:=zG yE zH mixed Tryz.func57 rfl (by decide+kernel) (by decide) (by decide) (by kernel_rfl) xDz xCm
noncomputable def yKw:Code:=match Tryz.f53.body with|some c=>c|none=> .skip
theorem xEc:zT tab (zM yOs) yJ5 Tryz.f53 yKw zRy:=fun k x=>by kernel_rfl
theorem xEm:zN tab (zM yOs) yJ5 0 yKw:=⟨trivial,trivial,⟨trivial,trivial,⟨trivial,trivial,⟨trivial,⟨trivial,trivial,⟨⟨fun _=>by kernel_rfl,fun k x=>by kernel_rfl⟩,⟨trivial,⟨trivial,trivial,⟨trivial,trivial⟩⟩,⟨trivial,trivial,trivial⟩⟩⟩⟩,⟨trivial,trivial,trivial⟩⟩⟩⟩⟩
theorem yNe:zQ Tryz.prog 53 zRy:=zG yE (zB zCf zH) mixed Tryz.func53 rfl (by decide+kernel) (by decide) (by decide) (by kernel_rfl) xEm xEc
noncomputable def yBc:Code:=match Tryz.f71.body with|some c=>c|none=> .skip
theorem yUo:zT tab (zM yDx) zYn Tryz.f71 yBc zRt:=fun k x=>by kernel_rfl
theorem yTf:zN tab (zM yDx) zYn 0 yBc:=⟨trivial,trivial,⟨trivial,trivial,trivial⟩⟩
theorem yVb:zQ Tryz.prog 71 zRt:=zG yE (zB zPu zH) mixed Tryz.func71 rfl (by decide+kernel) (by decide) (by decide) (by kernel_rfl) yTf yUo
noncomputable def yGf:Code:=match Tryz.f37.body with|some c=>c|none=> .skip
theorem yYj:zT tab (zM yIh) yDr Tryz.f37 yGf zHa:=fun k x=>by kernel_rfl
theorem yY7:zN tab (zM yIh) yDr 0 yGf:=⟨trivial,trivial,⟨trivial,⟨trivial,trivial,⟨⟨trivial,trivial,trivial⟩,trivial⟩⟩,⟨trivial,trivial,trivial⟩⟩⟩
theorem zXj:zQ Tryz.prog 37 zHa:=zG yE (zB zIm (zB zBr (zB yVb zH))) mixed Tryz.func37 rfl (by decide+kernel) (by decide) (by decide) (by kernel_rfl) yY7 yYj
noncomputable def yIn:Code:=match Tryz.f12.body with|some c=>c|none=> .skip
theorem xBq:zT tab (zM yKp) yF3 Tryz.f12 yIn zP4:=fun k x=>by kernel_rfl
theorem xBw:zN tab (zM yKp) yF3 0 yIn:=⟨trivial,trivial,⟨trivial,trivial,⟨trivial,⟨trivial,trivial,⟨⟨trivial,trivial,trivial⟩,trivial⟩⟩,⟨trivial,trivial,⟨trivial,trivial,trivial⟩⟩⟩⟩⟩
theorem yLa:zQ Tryz.prog 12 zP4:=zG yE (zB zXj (zB vG zH)) mixed Tryz.func12 rfl (by decide+kernel) (by decide) (by decide) (by kernel_rfl) xBw xBq
noncomputable def yDl:Code:=match Tryz.f25.body with|some c=>c|none=> .skip
theorem yWj:zT tab (zM yF1) yBv Tryz.f25 yDl zKt:=fun k x=>by kernel_rfl
theorem yWh:zN tab (zM yF1) yBv 0 yDl:=⟨trivial,trivial,⟨trivial,trivial,⟨trivial,⟨trivial,trivial,⟨⟨trivial,trivial,trivial⟩,trivial⟩⟩,⟨trivial,trivial,trivial⟩⟩⟩⟩
theorem yFm:zQ Tryz.prog 25 zKt:=zG yE (zB yIl zH) mixed Tryz.func25 rfl (by decide+kernel) (by decide) (by decide) (by kernel_rfl) yWh yWj
noncomputable def yRw:Code:=match Tryz.f23.body with|some c=>c|none=> .skip
theorem xJm:zT tab (zM yTg) yOb Tryz.f23 yRw yFg:=fun k x=>by kernel_rfl
theorem xIy:zN tab (zM yTg) yOb 0 yRw:=⟨trivial,trivial,⟨trivial,⟨trivial,trivial,⟨⟨trivial,trivial,trivial⟩,trivial⟩⟩,⟨trivial,trivial,⟨trivial,trivial,⟨trivial,⟨trivial,trivial,⟨trivial,trivial⟩⟩,⟨trivial,⟨trivial,trivial,⟨⟨fun _=>by kernel_rfl,fun k x=>by kernel_rfl⟩,⟨trivial,⟨trivial,trivial,⟨trivial,trivial⟩⟩,⟨trivial,⟨trivial,trivial,⟨trivial,trivial,⟨⟨trivial,trivial,trivial⟩,trivial⟩⟩⟩,trivial⟩⟩⟩⟩,⟨trivial,trivial,⟨trivial,trivial,⟨trivial,trivial,trivial⟩⟩⟩⟩⟩⟩⟩⟩⟩
theorem xH6:zQ Tryz.prog 23 yFg:=zG yE (zB yBo (zB xCy (zB yNe (zB yLa (zB yFm (zB zQb zH)))))) mixed Tryz.func23 rfl (by decide+kernel) (by decide) (by decide) (by kernel_rfl) xIy xJm
noncomputable def yAk:Code:=match Tryz.f10.body with|some c=>c|none=> .skip
theorem yR9:zT tab (zM yBe) zX4 Tryz.f10 yAk zPl:=fun k x=>by kernel_rfl
theorem ySd:zN tab (zM yBe) zX4 0 yAk:=⟨trivial,trivial,⟨trivial,⟨trivial,trivial,⟨⟨trivial,trivial,trivial⟩,trivial⟩⟩,⟨trivial,trivial,⟨trivial,⟨trivial,trivial,⟨⟨trivial,trivial,trivial⟩,trivial⟩⟩,⟨trivial,⟨⟨fun _=>by kernel_rfl,fun k x=>by kernel_rfl⟩,⟨trivial,⟨trivial,trivial,⟨trivial,trivial⟩⟩,⟨trivial,trivial,trivial⟩⟩⟩,⟨trivial,trivial,⟨trivial,trivial,⟨trivial,trivial,⟨trivial,trivial,⟨trivial,trivial,trivial⟩⟩⟩⟩⟩⟩⟩⟩⟩⟩
theorem yR5:zQ Tryz.prog 10 zPl:=zG yE (zB zIm (zB zXj (zRd yAj (zB zS0 (zB zO7 (zB zP7 (zB yF5 zH))))))) mixed Tryz.func10 rfl (by decide+kernel) (by decide) (by decide) (by kernel_rfl) ySd yR9
noncomputable def yIk:Code:=match Tryz.f47.body with|some c=>c|none=> .skip
theorem xAg:zT tab (zM yLz) yF2 Tryz.f47 yIk zPq:=fun k x=>by kernel_rfl
theorem yZ0:zN tab (zM yLz) yF2 0 yIk:=⟨trivial,trivial,⟨trivial,⟨trivial,trivial,⟨⟨fun _=>by kernel_rfl,fun k x=>by kernel_rfl⟩,⟨trivial,⟨trivial,trivial,⟨trivial,trivial⟩⟩,⟨trivial,⟨trivial,trivial,⟨⟨fun _=>by kernel_rfl,fun k x=>by kernel_rfl⟩,⟨trivial,⟨trivial,trivial,⟨trivial,trivial⟩⟩,⟨trivial,⟨trivial,trivial,⟨⟨trivial,trivial,trivial⟩,trivial⟩⟩,trivial⟩⟩⟩⟩,trivial⟩⟩⟩⟩,⟨trivial,trivial,trivial⟩⟩⟩
theorem yKy:zQ Tryz.prog 47 zPq:=zG yE zH mixed Tryz.func47 rfl (by decide+kernel) (by decide) (by decide) (by kernel_rfl) yZ0 xAg
noncomputable def yOd:Code:=match Tryz.f84.body with|some c=>c|none=> .skip
theorem xGe:zT tab (zM yRy) yL0 Tryz.f84 yOd yCr:=fun k x=>by kernel_rfl
theorem xGi:zN tab (zM yRy) yL0 0 yOd:=⟨trivial,trivial,⟨trivial,trivial,⟨trivial,⟨trivial,trivial,⟨⟨fun _=>by kernel_rfl,fun k x=>by kernel_rfl⟩,⟨trivial,⟨trivial,trivial,⟨trivial,trivial⟩⟩,⟨trivial,⟨trivial,trivial,⟨trivial,trivial⟩⟩,trivial⟩⟩⟩⟩,⟨trivial,trivial,trivial⟩⟩⟩⟩
theorem xGl:zQ Tryz.prog 84 yCr:=zG yE zH mixed Tryz.func84 rfl (by decide+kernel) (by decide) (by decide) (by kernel_rfl) xGi xGe
noncomputable def yFt:Code:=match Tryz.f48.body with|some c=>c|none=> .skip
theorem yXq:zT tab (zM yIp) yD2 Tryz.f48 yFt zM8:=fun k x=>by kernel_rfl
theorem yZm:zN tab (zM yIp) yD2 0 yFt:=⟨trivial,trivial,⟨trivial,⟨trivial,trivial,⟨⟨trivial,trivial,trivial⟩,trivial⟩⟩,⟨trivial,trivial,trivial⟩⟩⟩
theorem yJg:zQ Tryz.prog 48 zM8:=zG yE (zB zR9 (zB xGl zH)) mixed Tryz.func48 rfl (by decide+kernel) (by decide) (by decide) (by kernel_rfl) yZm yXq
noncomputable def yMz:Code:=match Tryz.f49.body with|some c=>c|none=> .skip
theorem xFy:zT tab (zM yR2) yK8 Tryz.f49 yMz zUp:=fun k x=>by kernel_rfl
theorem xFx:zN tab (zM yR2) yK8 0 yMz:=⟨trivial,trivial,⟨trivial,trivial,⟨trivial,⟨trivial,trivial,⟨⟨trivial,trivial,trivial⟩,trivial⟩⟩,⟨trivial,trivial,⟨trivial,⟨trivial,trivial,⟨⟨trivial,trivial,trivial⟩,trivial⟩⟩,⟨trivial,trivial,⟨trivial,⟨trivial,trivial,⟨trivial,trivial⟩⟩,⟨trivial,trivial,trivial⟩⟩⟩⟩⟩⟩⟩⟩
theorem yRv:zQ Tryz.prog 49 zUp:=zG yE (zB zR9 (zB yFd zH)) mixed Tryz.func49 rfl (by decide+kernel) (by decide) (by decide) (by kernel_rfl) xFx xFy
noncomputable def yEh:Code:=match Tryz.f17.body with|some c=>c|none=> .skip
theorem yV8:zT tab (zM yGm) yBp Tryz.f17 yEh zSx:=fun k x=>by kernel_rfl
theorem yWr:zN tab (zM yGm) yBp 0 yEh:=⟨trivial,trivial,⟨trivial,trivial,⟨trivial,trivial,⟨trivial,⟨trivial,trivial,⟨⟨trivial,trivial,trivial⟩,trivial⟩⟩,⟨trivial,trivial,⟨trivial,⟨trivial,trivial,⟨⟨fun _=>by kernel_rfl,fun k x=>by kernel_rfl⟩,⟨trivial,⟨trivial,trivial,⟨trivial,trivial⟩⟩,⟨trivial,trivial,trivial⟩⟩⟩⟩,⟨trivial,trivial,⟨trivial,⟨trivial,trivial,⟨trivial,trivial⟩⟩,⟨trivial,trivial,⟨trivial,trivial,trivial⟩⟩⟩⟩⟩⟩⟩⟩⟩⟩
theorem yV7:zQ Tryz.prog 17 zSx:=zG yE (zB zCf (zB yKy (zB yJg (zB yRv zH)))) mixed Tryz.func17 rfl (by decide+kernel) (by decide) (by decide) (by kernel_rfl) yWr yV8
noncomputable def zYs:Code:=match Tryz.f18.body with|some c=>c|none=> .skip
theorem ySb:zT tab (zM yBu) zYg Tryz.f18 zYs zPf:=fun k x=>by kernel_rfl
theorem ySs:zN tab (zM yBu) zYg 0 zYs:=⟨trivial,trivial,⟨trivial,⟨trivial,trivial,⟨⟨trivial,trivial,trivial⟩,trivial⟩⟩,⟨trivial,⟨trivial,trivial,⟨⟨trivial,trivial,trivial⟩,trivial⟩⟩,⟨trivial,⟨⟨fun _=>by kernel_rfl,fun k x=>by kernel_rfl⟩,⟨trivial,⟨trivial,trivial,⟨trivial,trivial⟩⟩,⟨trivial,trivial,trivial⟩⟩⟩,⟨trivial,trivial,trivial⟩⟩⟩⟩⟩
theorem ySe:zQ Tryz.prog 18 zPf:=zG yE (zB zIm (zB zXj (zB zS0 (zB zO7 (zB zPu zH))))) mixed Tryz.func18 rfl (by decide+kernel) (by decide) (by decide) (by kernel_rfl) ySs ySb
noncomputable def yD6:Code:=match Tryz.f19.body with|some c=>c|none=> .skip
theorem yWg:zT tab (zM yFz) yBw Tryz.f19 yD6 zTg:=fun k x=>by kernel_rfl
theorem yWk:zN tab (zM yFz) yBw 0 yD6:=⟨trivial,trivial,⟨trivial,trivial,⟨trivial,trivial,⟨trivial,⟨trivial,trivial,⟨⟨trivial,trivial,trivial⟩,trivial⟩⟩,⟨trivial,trivial,⟨trivial,⟨trivial,trivial,⟨⟨fun _=>by kernel_rfl,fun k x=>by kernel_rfl⟩,⟨trivial,⟨trivial,trivial,⟨trivial,trivial⟩⟩,⟨trivial,⟨trivial,⟨trivial,trivial,⟨trivial,trivial⟩⟩,trivial⟩,trivial⟩⟩⟩⟩,⟨trivial,trivial,trivial⟩⟩⟩⟩⟩⟩⟩
theorem yWe:zQ Tryz.prog 19 zTg:=zG yE (zB zCf (zB yKy (zB yJg zH))) mixed Tryz.func19 rfl (by decide+kernel) (by decide) (by decide) (by kernel_rfl) yWk yWg
noncomputable def zZn:Code:=match Tryz.f11.body with|some c=>c|none=> .skip
theorem ySa:zT tab (zM yBr) zX6 Tryz.f11 zZn zHz:=fun k x=>by kernel_rfl
theorem ySo:zN tab (zM yBr) zX6 0 zZn:=⟨trivial,trivial,⟨⟨fun _=>by kernel_rfl,fun k x=>by kernel_rfl⟩,⟨trivial,trivial,⟨trivial,⟨trivial,trivial⟩,⟨trivial,⟨trivial,trivial,⟨trivial,trivial,⟨trivial,trivial,⟨trivial,⟨trivial,trivial,⟨trivial,trivial⟩⟩,⟨trivial,trivial,trivial⟩⟩⟩⟩⟩,trivial⟩⟩⟩⟩⟩
theorem yA9:zQ Tryz.prog 11 zHz:=zG yE (zB yBd (zB vG zH)) mixed Tryz.func11 rfl (by decide+kernel) (by decide) (by decide) (by kernel_rfl) ySo ySa
noncomputable def yJp:Code:=match Tryz.f21.body with|some c=>c|none=> .skip
theorem xAh:zT tab (zM yLp) yFu Tryz.f21 yJp zW8:=fun k x=>by kernel_rfl
theorem yZ6:zN tab (zM yLp) yFu 0 yJp:=⟨trivial,trivial,⟨trivial,trivial,⟨trivial,⟨trivial,trivial,⟨⟨fun _=>by kernel_rfl,fun k x=>by kernel_rfl⟩,⟨trivial,⟨trivial,trivial,⟨trivial,trivial⟩⟩,⟨trivial,⟨trivial,trivial,⟨trivial,trivial,⟨trivial,⟨trivial,trivial,⟨⟨trivial,trivial,⟨⟨fun _=>by kernel_rfl,fun k x=>by kernel_rfl⟩,⟨trivial,⟨trivial,trivial,⟨trivial,trivial⟩⟩,⟨trivial,trivial,trivial⟩⟩⟩⟩,trivial⟩⟩,⟨trivial,trivial,⟨trivial,trivial,trivial⟩⟩⟩⟩⟩,trivial⟩⟩⟩⟩,⟨trivial,trivial,trivial⟩⟩⟩⟩
theorem xAi:zQ Tryz.prog 21 zW8:=zG yE zH mixed Tryz.func21 rfl (by decide+kernel) (by decide) (by decide) (by kernel_rfl) yZ6 xAh
noncomputable def yLb:Code:=match Tryz.f51.body with|some c=>c|none=> .skip
theorem xCs:zT tab (zM yNk) yJc Tryz.f51 yLb zRw:=fun k x=>by kernel_rfl
theorem xDl:zN tab (zM yNk) yJc 0 yLb:=⟨trivial,trivial,⟨trivial,trivial,⟨trivial,⟨trivial,trivial,⟨⟨fun _=>by kernel_rfl,fun k x=>by kernel_rfl⟩,⟨trivial,⟨trivial,trivial,⟨trivial,trivial⟩⟩,⟨trivial,⟨trivial,trivial,trivial⟩,trivial⟩⟩⟩⟩,⟨trivial,trivial,trivial⟩⟩⟩⟩
theorem yOh:zQ Tryz.prog 51 zRw:=zG yE zH mixed Tryz.func51 rfl (by decide+kernel) (by decide) (by decide) (by kernel_rfl) xDl xCs
noncomputable def yKj:Code:=match Tryz.f52.body with|some c=>c|none=> .skip
theorem xCx:zT tab (zM yOj) yIz Tryz.f52 yKj zR5:=fun k x=>by kernel_rfl
theorem xB7:zN tab (zM yOj) yIz 0 yKj:=⟨trivial,trivial,⟨trivial,⟨trivial,trivial,⟨⟨trivial,trivial,trivial⟩,trivial⟩⟩,⟨trivial,trivial,trivial⟩⟩⟩
theorem yNa:zQ Tryz.prog 52 zR5:=zG yE zH mixed Tryz.func52 rfl (by decide+kernel) (by decide) (by decide) (by kernel_rfl) xB7 xCx
noncomputable def yK9:Code:=match Tryz.f20.body with|some c=>c|none=> .skip
theorem xEg:zT tab (zM yN2) yJk Tryz.f20 yK9 zZ1:=fun k x=>by kernel_rfl
theorem xCo:zN tab (zM yN2) yJk 0 yK9:=⟨trivial,trivial,⟨trivial,trivial,⟨trivial,⟨trivial,trivial,⟨⟨trivial,trivial,trivial⟩,trivial⟩⟩,⟨trivial,trivial,⟨trivial,trivial,⟨trivial,trivial,⟨trivial,⟨trivial,trivial,⟨⟨fun _=>by kernel_rfl,fun k x=>by kernel_rfl⟩,⟨trivial,⟨trivial,trivial,⟨trivial,trivial⟩⟩,⟨trivial,⟨trivial,trivial,⟨trivial,trivial⟩⟩,trivial⟩⟩⟩⟩,⟨trivial,trivial,⟨trivial,trivial,trivial⟩⟩⟩⟩⟩⟩⟩⟩⟩
theorem xC9:zQ Tryz.prog 20 zZ1:=zG yE (zB zCf (zB zXe (zB yOh (zB yNa (zB yRv zH))))) mixed Tryz.func20 rfl (by decide+kernel) (by decide) (by decide) (by kernel_rfl) xCo xEg
noncomputable def yRx:Code:=match Tryz.f78.body with|some c=>c|none=> .skip
theorem xIq:zT tab (zM yTu) yNu Tryz.f78 yRx yFk:=fun k x=>by kernel_rfl
theorem xKt:zN tab (zM yTu) yNu 0 yRx:=⟨trivial,trivial,⟨trivial,trivial,trivial⟩⟩
theorem xJb:zQ Tryz.prog 78 yFk:=zG yE (zB yJr zH) mixed Tryz.func78 rfl (by decide+kernel) (by decide) (by decide) (by kernel_rfl) xKt xIq
noncomputable def zYb:Code:=match Tryz.f42.body with|some c=>c|none=> .skip
theorem yO8:zT tab (zM yAs) zVj Tryz.f42 zYb zOo:=fun k x=>by kernel_rfl
theorem yO1:zN tab (zM yAs) zVj 0 zYb:=⟨trivial,trivial,⟨trivial,⟨trivial,trivial,⟨⟨trivial,trivial,trivial⟩,trivial⟩⟩,⟨trivial,trivial,⟨trivial,⟨trivial,trivial,⟨trivial,trivial⟩⟩,⟨trivial,⟨trivial,trivial,⟨⟨trivial,trivial,trivial⟩,trivial⟩⟩,⟨trivial,trivial,⟨trivial,trivial,⟨trivial,trivial,trivial⟩⟩⟩⟩⟩⟩⟩⟩
theorem yQ5:zQ Tryz.prog 42 zOo:=zG yE (zB zW1 (zB xJb zH)) mixed Tryz.func42 rfl (by decide+kernel) (by decide) (by decide) (by kernel_rfl) yO1 yO8
noncomputable def yR0:Code:=match Tryz.f80.body with|some c=>c|none=> .skip
theorem xHo:zT tab (zM yS4) yM1 Tryz.f80 yR0 yFc:=fun k x=>by kernel_rfl
theorem xKe:zN tab (zM yS4) yM1 0 yR0:=⟨trivial,trivial,⟨trivial,trivial,trivial⟩⟩
theorem xJ7:zQ Tryz.prog 80 yFc:=zG yE zH mixed Tryz.func80 rfl (by decide+kernel) (by decide) (by decide) (by kernel_rfl) xKe xHo
noncomputable def yGa:Code:=match Tryz.f44.body with|some c=>c|none=> .skip
theorem yYw:zT tab (zM yI1) yDt Tryz.f44 yGa zNp:=fun k x=>by kernel_rfl
theorem yYo:zN tab (zM yI1) yDt 0 yGa:=⟨trivial,trivial,⟨trivial,trivial,⟨trivial,⟨⟨fun _=>by kernel_rfl,fun k x=>by kernel_rfl⟩,⟨trivial,⟨trivial,trivial,⟨trivial,trivial⟩⟩,⟨trivial,trivial,trivial⟩⟩⟩,⟨trivial,trivial,trivial⟩⟩⟩⟩
theorem yIq:zQ Tryz.prog 44 zNp:=zG yE (zB xJ7 zH) mixed Tryz.func44 rfl (by decide+kernel) (by decide) (by decide) (by kernel_rfl) yYo yYw
noncomputable def yNh:Code:=match Tryz.f43.body with|some c=>c|none=> .skip
theorem xGw:zT tab (zM yRd) yLm Tryz.f43 yNh yCp:=fun k x=>by kernel_rfl
theorem xGb:zN tab (zM yRd) yLm 0 yNh:=⟨trivial,trivial,⟨trivial,⟨trivial,trivial,⟨⟨trivial,trivial,trivial⟩,trivial⟩⟩,⟨trivial,trivial,⟨trivial,trivial,trivial⟩⟩⟩⟩
theorem xG4:zQ Tryz.prog 43 yCp:=zG yE (zB yUu (zB yIq zH)) mixed Tryz.func43 rfl (by decide+kernel) (by decide) (by decide) (by kernel_rfl) xGb xGw
noncomputable def yBl:Code:=match Tryz.f14.body with|some c=>c|none=> .skip
theorem yUl:zT tab (zM yEi) yA6 Tryz.f14 yBl zJ7:=fun k x=>by kernel_rfl
theorem yUf:zN tab (zM yEi) yA6 0 yBl:=⟨trivial,trivial,⟨trivial,trivial,⟨trivial,⟨trivial,trivial,⟨⟨trivial,trivial,trivial⟩,⟨trivial,trivial,⟨⟨trivial,trivial,trivial⟩,⟨trivial,trivial,⟨⟨trivial,trivial,trivial⟩,trivial⟩⟩⟩⟩⟩⟩,⟨trivial,trivial,⟨trivial,⟨trivial,trivial,⟨⟨trivial,trivial,⟨trivial,⟨trivial,trivial,⟨⟨trivial,trivial,trivial⟩,trivial⟩⟩,⟨trivial,⟨trivial,trivial,⟨⟨trivial,trivial,trivial⟩,trivial⟩⟩,⟨trivial,trivial,trivial⟩⟩⟩⟩,trivial⟩⟩,⟨trivial,trivial,⟨trivial,⟨trivial,trivial,⟨⟨trivial,trivial,trivial⟩,trivial⟩⟩,⟨trivial,⟨trivial,trivial,⟨trivial,trivial⟩⟩,⟨trivial,trivial,⟨trivial,trivial,trivial⟩⟩⟩⟩⟩⟩⟩⟩⟩⟩
theorem yDw:zQ Tryz.prog 14 zJ7:=zG yE (zB zQb (zB zIm (zRd yAj (zB zS0 (zB yQ5 (zB yIq (zB xG4 (zB zP7 (zB vG (zB zS4 zH)))))))))) mixed Tryz.func14 rfl (by decide+kernel) (by decide) (by decide) (by kernel_rfl) yUf yUl
noncomputable def yLt:Code:=match Tryz.f85.body with|some c=>c|none=> .skip
theorem xEl:zT tab (zM yOa) yKc Tryz.f85 yLt zZj:=fun k x=>by kernel_rfl
theorem xDn:zN tab (zM yOa) yKc 0 yLt:=⟨trivial,trivial,⟨trivial,⟨trivial,trivial,⟨⟨trivial,trivial,trivial⟩,trivial⟩⟩,⟨trivial,⟨trivial,trivial,⟨⟨fun _=>by kernel_rfl,fun k x=>by kernel_rfl⟩,⟨trivial,⟨trivial,trivial,⟨trivial,trivial⟩⟩,⟨trivial,⟨trivial,trivial,⟨trivial,trivial,⟨⟨trivial,trivial,trivial⟩,trivial⟩⟩⟩,trivial⟩⟩⟩⟩,⟨trivial,trivial,trivial⟩⟩⟩⟩
theorem xD3:zQ Tryz.prog 85 zZj:=zG yE zH mixed Tryz.func85 rfl (by decide+kernel) (by decide) (by decide) (by kernel_rfl) xDn xEl
noncomputable def yGb:Code:=match Tryz.f54.body with|some c=>c|none=> .skip
theorem yXx:zT tab (zM yI5) yEr Tryz.f54 yGb zVd:=fun k x=>by kernel_rfl
theorem yX7:zN tab (zM yI5) yEr 0 yGb:=⟨trivial,trivial,⟨trivial,⟨trivial,trivial,⟨⟨trivial,trivial,trivial⟩,trivial⟩⟩,⟨trivial,trivial,⟨trivial,trivial,⟨fun k x=>by kernel_rfl,⟨trivial,trivial,⟨trivial,trivial⟩⟩,⟨trivial,⟨trivial,trivial,⟨⟨trivial,trivial,trivial⟩,trivial⟩⟩,⟨trivial,trivial,⟨trivial,trivial,trivial⟩⟩⟩⟩⟩⟩⟩⟩
theorem yZk:zQ Tryz.prog 54 zVd:=zG yE (zB xD3 (zB zR9 (zB yFd zH))) mixed Tryz.func54 rfl (by decide+kernel) (by decide) (by decide) (by kernel_rfl) yX7 yXx
noncomputable def yId:Code:=match Tryz.f55.body with|some c=>c|none=> .skip
theorem xAq:zT tab (zM yLc) yFn Tryz.f55 yId zXk:=fun k x=>by kernel_rfl
theorem yZs:zN tab (zM yLc) yFn 0 yId:=⟨trivial,trivial,⟨trivial,trivial,⟨trivial,trivial,⟨trivial,trivial,trivial⟩⟩⟩⟩
theorem xBm:zQ Tryz.prog 55 zXk:=zG yE (zB yNy (zB zNk zH)) mixed Tryz.func55 rfl (by decide+kernel) (by decide) (by decide) (by kernel_rfl) yZs xAq
noncomputable def yF8:Code:=match Tryz.f22.body with|some c=>c|none=> .skip
theorem yY3:zT tab (zM yJe) yEy Tryz.f22 yF8 zU7:=fun k x=>by kernel_rfl
theorem yXv:zN tab (zM yJe) yEy 0 yF8:=⟨trivial,trivial,⟨trivial,trivial,⟨trivial,⟨trivial,trivial,⟨⟨trivial,trivial,trivial⟩,trivial⟩⟩,⟨trivial,⟨trivial,trivial,⟨⟨trivial,trivial,trivial⟩,trivial⟩⟩,⟨trivial,⟨fun k x=>by kernel_rfl,trivial,⟨⟨trivial,trivial,trivial⟩,trivial⟩⟩,⟨trivial,trivial,⟨trivial,trivial,⟨fun k x=>by kernel_rfl,⟨trivial,trivial,⟨trivial,trivial⟩⟩,⟨fun k x=>by kernel_rfl,⟨trivial,trivial,⟨⟨trivial,⟨trivial,trivial,⟨trivial,trivial⟩⟩,⟨trivial,trivial,⟨trivial,⟨trivial,trivial,⟨⟨trivial,trivial,trivial⟩,trivial⟩⟩,⟨trivial,trivial,⟨trivial,trivial,⟨trivial,trivial,⟨⟨trivial,trivial,trivial⟩,trivial⟩⟩⟩⟩⟩⟩⟩,trivial⟩⟩,⟨trivial,trivial,⟨trivial,trivial,⟨trivial,⟨trivial,trivial,⟨⟨trivial,trivial,trivial⟩,trivial⟩⟩,⟨trivial,trivial,trivial⟩⟩⟩⟩⟩⟩⟩⟩⟩⟩⟩⟩⟩
theorem yYt:zQ Tryz.prog 22 zU7:=zG yE (zB yNe (zB zCf (zB zXe (zB yOh (zB yNx (zB yZk (zB zNk (zB xBm (zB yNa zH))))))))) mixed Tryz.func22 rfl (by decide+kernel) (by decide) (by decide) (by kernel_rfl) yXv yY3
noncomputable def yI4:Code:=match Tryz.f15.body with|some c=>c|none=> .skip
theorem yZ2:zT tab (zM yK3) yFq Tryz.f15 yI4 zXd:=fun k x=>by kernel_rfl
theorem xA2:zN tab (zM yK3) yFq 0 yI4:=⟨trivial,trivial,⟨trivial,trivial,⟨trivial,trivial,⟨trivial,⟨trivial,trivial,⟨⟨trivial,trivial,trivial⟩,trivial⟩⟩,⟨trivial,trivial,⟨trivial,trivial,⟨trivial,trivial,⟨trivial,trivial,⟨trivial,⟨trivial,trivial,⟨⟨trivial,trivial,trivial⟩,trivial⟩⟩,⟨trivial,trivial,⟨trivial,trivial,trivial⟩⟩⟩⟩⟩⟩⟩⟩⟩⟩⟩
theorem xBo:zQ Tryz.prog 15 zXd:=zG yE (zB yU3 (zB yS3 (zB yDw (zB yJo (zB yA9 (zB yLa (zB yFm (zB zQb zH)))))))) mixed Tryz.func15 rfl (by decide+kernel) (by decide) (by decide) (by kernel_rfl) xA2 yZ2
noncomputable def yEc:Code:=match Tryz.f4.body with|some c=>c|none=> .skip
theorem yWp:zT tab (zM yFx) yBx Tryz.f4 yEc zS3:=fun k x=>by kernel_rfl
theorem yWm:zN tab (zM yFx) yBx 0 yEc:=⟨trivial,trivial,⟨trivial,trivial,⟨trivial,trivial,⟨trivial,trivial,⟨trivial,⟨trivial,trivial,⟨⟨trivial,trivial,trivial⟩,trivial⟩⟩,⟨trivial,trivial,⟨trivial,⟨trivial,trivial,⟨⟨fun _=>by kernel_rfl,fun k x=>by kernel_rfl⟩,⟨trivial,⟨trivial,trivial,⟨trivial,trivial⟩⟩,⟨trivial,⟨trivial,trivial,⟨fun k x=>by kernel_rfl,⟨trivial,trivial,⟨trivial,trivial⟩⟩,⟨trivial,trivial,⟨trivial,⟨trivial,trivial,⟨trivial,trivial,⟨⟨trivial,trivial,trivial⟩,⟨trivial,trivial,⟨⟨trivial,trivial,trivial⟩,⟨trivial,trivial,⟨⟨trivial,trivial,trivial⟩,⟨trivial,trivial,⟨⟨trivial,trivial,⟨trivial,trivial,⟨trivial,trivial,⟨trivial,trivial,⟨⟨trivial,trivial,trivial⟩,trivial⟩⟩⟩⟩⟩,⟨trivial,trivial,⟨trivial,trivial,trivial⟩⟩⟩⟩⟩⟩⟩⟩⟩⟩⟩,⟨trivial,trivial,⟨⟨trivial,trivial,trivial⟩,trivial⟩⟩⟩⟩⟩⟩,trivial⟩⟩⟩⟩,⟨trivial,trivial,trivial⟩⟩⟩⟩⟩⟩⟩⟩
theorem yWi:zQ Tryz.prog 4 zS3:=zG yE (zB yU3 (zB yS3 (zB xBj (zB zQb (zB yJo (zB xCb (zB xH6 (zB yR5 (zB yV7 (zB ySe (zB yWe (zB yA9 (zB xAi (zB xC9 (zB yDw (zB yYt (zB xBo zH))))))))))))))))) mixed Tryz.func4 rfl (by decide+kernel) (by decide) (by decide) (by kernel_rfl) yWm yWp
end Go.Proofs.YtlhifcknhgmidaaGreatDoor.gg
