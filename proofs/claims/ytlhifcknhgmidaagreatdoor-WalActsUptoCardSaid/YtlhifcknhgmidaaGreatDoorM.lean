/- A part of our own proof. -/
import Derived.Test.YtlhifcknhgmidaaGreatDoorG
import Derived.Test.YtlhifcknhgmidaaGreatDoorK6
open Go Go.GG
set_option linter.unusedVariables false
namespace Go.Proofs.YtlhifcknhgmidaaGreatDoor.gg
noncomputable def yEw:yAd:=yG8
theorem yW9:Lm (fun k=>yJa k) (yEw):=by
 unfold yJa yEw yG8
 exact .const _
noncomputable def zEc:zIf:=zIe
theorem yAx (x0):Lm (fun k=>zNy k x0) (zEc x0):=by
 unfold zNy zEc zIe
 exact .const _
noncomputable def zDe:zE8:=zPm zEc
theorem zU3 (x0 x1):Lm (fun k=>zIl k x0 x1) (zDe x0 x1):=by
 unfold zIl zDe zPm
 exact .bind (yAx _) (fun r1=> .const _)
noncomputable def zC7:zFe:=zP5 zDe
theorem zNa (x0 x1):Lm (fun k=>zIi k x0 x1) (zC7 x0 x1):=by
 unfold zIi zC7 zP5
 exact .bind (zU3 _ _) (fun r1=> .const _)
noncomputable def zFh:zHe:=zNb zEc
theorem yEz (x0):Lm (fun k=>zK1 k x0) (zFh x0):=by
 unfold zK1 zFh zNb
 exact .bind (yAx _) (fun r1=> .const _)
noncomputable def yV:xV:=jQ
theorem yB (x0):Lm (fun k=>xU k x0) (yV x0):=by
 unfold xU yV jQ
 exact .const _
noncomputable def zEq:zC6:=fun v0 v1 v2 v3 v4 v5=>lim fun k=>zAn k v0 v1 v2 v3 v4 v5
theorem zXq:∀k v0 v1 v2 v3 v4 v5,M2 (zAn k v0 v1 v2 v3 v4 v5) (zAn (k+1) v0 v1 v2 v3 v4 v5)
 |0,_,_,_,_,_,_=> .none
 |k+1,_,_,_,_,_,_=> .cond _ (.cond _ (.bind (.const _) (fun w2=> .bind (.const _) (fun w3=> .bind ((yB _).m k) (fun r4=> .cond _ (zXq k _ _ _ _ _ _) (.const _))))) (.const _)) (.const _)
theorem zN9 (v0 v1 v2 v3 v4 v5):Lm (fun k=>zAn k v0 v1 v2 v3 v4 v5) (zEq v0 v1 v2 v3 v4 v5):= .of_m2 fun k=>zXq k v0 v1 v2 v3 v4 v5
theorem zXt (v0 v1 v2 v3 v4 v5):zEq v0 v1 v2 v3 v4 v5=zDh yV zEq v0 v1 v2 v3 v4 v5:=(zN9 v0 v1 v2 v3 v4 v5).shift.uniq (by unfold zDh;exact .cond _ (.cond _ (.bind (.const _) (fun w2=> .bind (.const _) (fun w3=> .bind (yB _) (fun r4=> .cond _ (zN9 _ _ _ _ _ _) (.const _))))) (.const _)) (.const _))
noncomputable def zEy:zHr:=zNg zFh zEq
theorem yEa (x0):Lm (fun k=>zKj k x0) (zEy x0):=by
 unfold zKj zEy zNg
 exact .bind (yEz _) (fun r1=> .bind (zN9 _ _ _ _ _ _) (fun o5=> .const _))
noncomputable def jB:kC:=kE
theorem zV8 (x0 x1):Lm (fun k=>zAa k x0 x1) (jB x0 x1):=by
 unfold zAa jB kE
 exact .const _
noncomputable def kM:kB:=kA jB
theorem zV0 (x0 x1):Lm (fun k=>zAb k x0 x1) (kM x0 x1):=by
 unfold zAb kM kA
 exact .bind (zV8 _ _) (fun r1=> .const _)
noncomputable def zF7:zJz:=zJ3 kM
theorem yPt (x0 x1):Lm (fun k=>zNf k x0 x1) (zF7 x0 x1):=by
 unfold zNf zF7 zJ3
 exact .bind (zV0 _ _) (fun r1=> .const _)
noncomputable def zRl:zZr:=yA1 zF7
theorem yFl (x0):Lm (fun k=>yAi k x0) (zRl x0):=by
 unfold yAi zRl yA1
 exact .bind (yPt _ _) (fun r1=> .const _)
noncomputable def zCq:zK0:=fun v0 v1 v2 v3 v4 v5=>lim fun k=>zGy k v0 v1 v2 v3 v4 v5
theorem zW6:∀k v0 v1 v2 v3 v4 v5,M2 (zGy k v0 v1 v2 v3 v4 v5) (zGy (k+1) v0 v1 v2 v3 v4 v5)
 |0,_,_,_,_,_,_=> .none
 |k+1,_,_,_,_,_,_=> .cond _ (.bind (.const _) (fun e1=> .cond _ (.const _) (.cond _ (.cond _ (.const _) (.cond _ (.cond _ (.const _) (zW6 k _ _ _ _ _ _)) (.const _))) (.cond _ (.cond _ (.const _) (zW6 k _ _ _ _ _ _)) (.const _))))) (.const _)
theorem zQd (v0 v1 v2 v3 v4 v5):Lm (fun k=>zGy k v0 v1 v2 v3 v4 v5) (zCq v0 v1 v2 v3 v4 v5):= .of_m2 fun k=>zW6 k v0 v1 v2 v3 v4 v5
theorem zWz (v0 v1 v2 v3 v4 v5):zCq v0 v1 v2 v3 v4 v5=zGg zCq v0 v1 v2 v3 v4 v5:=(zQd v0 v1 v2 v3 v4 v5).shift.uniq (by unfold zGg;exact .cond _ (.bind (.const _) (fun e1=> .cond _ (.const _) (.cond _ (.cond _ (.const _) (.cond _ (.cond _ (.const _) (zQd _ _ _ _ _ _)) (.const _))) (.cond _ (.cond _ (.const _) (zQd _ _ _ _ _ _)) (.const _))))) (.const _))
noncomputable def zVi:zZb:=zYv zCq
theorem xF0 (x0):Lm (fun k=>yHj k x0) (zVi x0):=by
 unfold yHj zVi zYv
 exact .bind (zQd _ _ _ _ _ _) (fun o2=> .const _)
noncomputable def zOf:zQi:=fun v0 v1 v2 v3=>lim fun k=>zM1 k v0 v1 v2 v3
theorem yOk:∀k v0 v1 v2 v3,M2 (zM1 k v0 v1 v2 v3) (zM1 (k+1) v0 v1 v2 v3)
 |0,_,_,_,_=> .none
 |k+1,_,_,_,_=> .cond _ (.bind (.const _) (fun e1=> .cond _ (.bind (.const _) (fun e2=> .cond _ (.bind (.const _) (fun e3=>yOk k _ _ _ _)) (.const _))) (.const _))) (.const _)
theorem yB3 (v0 v1 v2 v3):Lm (fun k=>zM1 k v0 v1 v2 v3) (zOf v0 v1 v2 v3):= .of_m2 fun k=>yOk k v0 v1 v2 v3
theorem yM9 (v0 v1 v2 v3):zOf v0 v1 v2 v3=zQ2 zOf v0 v1 v2 v3:=(yB3 v0 v1 v2 v3).shift.uniq (by unfold zQ2;exact .cond _ (.bind (.const _) (fun e1=> .cond _ (.bind (.const _) (fun e2=> .cond _ (.bind (.const _) (fun e3=>yB3 _ _ _ _)) (.const _))) (.const _))) (.const _))
noncomputable def yLy:yHf:=yG6 zOf
theorem xLx (x0 x1):Lm (fun k=>yPo k x0 x1) (yLy x0 x1):=by
 unfold yPo yLy yG6
 exact .bind (yB3 _ _ _ _) (fun o4=> .const _)
noncomputable def yOt:yP7:=yO9 yLy
theorem xQl (x0):Lm (fun k=>xBn k x0) (yOt x0):=by
 unfold xBn yOt yO9
 exact .bind (xLx _ _) (fun r1=> .const _)
noncomputable def zXl:zZt:=yHd yOt
theorem yW2 (x0):Lm (fun k=>yJn k x0) (zXl x0):=by
 unfold yJn zXl yHd
 exact .bind (xQl _) (fun r1=> .const _)
noncomputable def yEg:yHy:=yGv zXl yV
theorem xL0 (x0):Lm (fun k=>yPb k x0) (yEg x0):=by
 unfold yPb yEg yGv
 exact .cond _ (.const _) (.cond _ (.bind (yW2 _) (fun r1=> .cond _ (.const _) (.cond _ (.bind (yB _) (fun r2=> .const _)) (.const _)))) (.const _))
noncomputable def zR0:zO5:=zXh
theorem yWd (v0 v1 v2 v3):Lm (fun k=>zT2 k v0 v1 v2 v3) (zR0 v0 v1 v2 v3):=by
 unfold zT2 zR0 zXh
 exact .const _
noncomputable def zVs:zZi:=zZh zVi yEg zR0
theorem xG5 (x0):Lm (fun k=>yGt k x0) (zVs x0):=by
 unfold yGt zVs zZh
 exact .bind (xF0 _) (fun r1=> .cond _ (.const _) (.cond _ (.const _) (.cond _ (.bind (xL0 _) (fun r2=> .bind (yWd _ _ _ _) (fun o3=> .const _))) (.const _))))
noncomputable def zYw:yC9:=yC8 yV
theorem xJ9 (x0):Lm (fun k=>yK4 k x0) (zYw x0):=by
 unfold yK4 zYw yC8
 exact .bind (yB _) (fun r1=> .const _)
noncomputable def zNo:zLq:=zS5
theorem ySk (x0):Lm (fun k=>zPc k x0) (zNo x0):=by
 unfold zPc zNo zS5
 exact .const _
noncomputable def zDf:zCj:=fun v0 v1 v2 v3 v4=>lim fun k=>kY k v0 v1 v2 v3 v4
theorem zBq:∀k v0 v1 v2 v3 v4,M2 (kY k v0 v1 v2 v3 v4) (kY (k+1) v0 v1 v2 v3 v4)
 |0,_,_,_,_,_=> .none
 |k+1,_,_,_,_,_=> .cond _ (.bind (.const _) (fun e1=> .cond _ (.cond _ (.const _) (.cond _ (.cond _ (.const _) (.cond _ (.cond _ (.const _) (zBq k _ _ _ _ _)) (.const _))) (.cond _ (.cond _ (.const _) (zBq k _ _ _ _ _)) (.const _)))) (.cond _ (.cond _ (.const _) (.cond _ (.cond _ (.const _) (zBq k _ _ _ _ _)) (.const _))) (.cond _ (.cond _ (.const _) (zBq k _ _ _ _ _)) (.const _))))) (.const _)
theorem kN (v0 v1 v2 v3 v4):Lm (fun k=>kY k v0 v1 v2 v3 v4) (zDf v0 v1 v2 v3 v4):= .of_m2 fun k=>zBq k v0 v1 v2 v3 v4
theorem zVo (v0 v1 v2 v3 v4):zDf v0 v1 v2 v3 v4=zCd zDf v0 v1 v2 v3 v4:=(kN v0 v1 v2 v3 v4).shift.uniq (by unfold zCd;exact .cond _ (.bind (.const _) (fun e1=> .cond _ (.cond _ (.const _) (.cond _ (.cond _ (.const _) (.cond _ (.cond _ (.const _) (kN _ _ _ _ _)) (.const _))) (.cond _ (.cond _ (.const _) (kN _ _ _ _ _)) (.const _)))) (.cond _ (.cond _ (.const _) (.cond _ (.cond _ (.const _) (kN _ _ _ _ _)) (.const _))) (.cond _ (.cond _ (.const _) (kN _ _ _ _ _)) (.const _))))) (.const _))
noncomputable def zHo:zLx:=zLd zDf
theorem ySm (x0):Lm (fun k=>zPt k x0) (zHo x0):=by
 unfold zPt zHo zLd
 exact .cond _ (.bind (kN _ _ _ _ _) (fun o2=> .const _)) (.const _)
noncomputable def zHh:zKr:=zLh
theorem ySq (x0 x1):Lm (fun k=>zPh k x0 x1) (zHh x0 x1):=by
 unfold zPh zHh zLh
 exact .const _
noncomputable def zDs:zGf:=zGl zNo zHo zHh
theorem yMa (x0):Lm (fun k=>zJ4 k x0) (zDs x0):=by
 unfold zJ4 zDs zGl
 exact .bind (ySk _) (fun r1=> .cond _ (.const _) (.bind (ySm _) (fun r2=> .cond _ (.bind (ySq _ _) (fun r3=> .const _)) (.const _))))
noncomputable def zPy:zM5:=zM4
theorem yS9 (x0):Lm (fun k=>zSe k x0) (zPy x0):=by
 unfold zSe zPy zM4
 exact .const _
noncomputable def zNh:zLb:=zK4
theorem yA8 (x0):Lm (fun k=>zP9 k x0) (zNh x0):=by
 unfold zP9 zNh zK4
 exact .const _
noncomputable def zMm:zZ4:=zTk zVs zYw zDs zPy zNh
theorem yRl (x0):Lm (fun k=>yG4 k x0) (zMm x0):=by
 unfold yG4 zMm zTk
 exact .bind (xG5 _) (fun r1=> .cond _ (.const _) (.cond _ (.const _) (.bind (xJ9 _) (fun r2=> .bind (yMa _) (fun r3=> .bind (yS9 _) (fun r4=> .cond _ (.const _) (.cond _ (.const _) (.bind (yA8 _) (fun r5=> .cond _ (.const _) (.bind (yA8 _) (fun r6=> .const _)))))))))))
noncomputable def zQ7:zUk:=zUi
theorem yL8 (v0 v1 v2 v3 v4 v5 v6 v7 v8 v9 v10 v11):Lm (fun k=>zYh k v0 v1 v2 v3 v4 v5 v6 v7 v8 v9 v10 v11) (zQ7 v0 v1 v2 v3 v4 v5 v6 v7 v8 v9 v10 v11):=by
 unfold zYh zQ7 zUi
 exact .const _
noncomputable def zKg:zT7:=zUm
theorem yKr (v0 v1 v2 v3 v4 v5 v6 v7 v8 v9 v10 v11 v12 v13):Lm (fun k=>yAg k v0 v1 v2 v3 v4 v5 v6 v7 v8 v9 v10 v11 v12 v13) (zKg v0 v1 v2 v3 v4 v5 v6 v7 v8 v9 v10 v11 v12 v13):=by
 unfold yAg zKg zUm
 exact .const _
noncomputable def zKc:zN0:=fun v0 v1 v2 v3 v4 v5 v6 v7 v8 v9 v10=>lim fun k=>zJh k v0 v1 v2 v3 v4 v5 v6 v7 v8 v9 v10
theorem yLv:∀k v0 v1 v2 v3 v4 v5 v6 v7 v8 v9 v10,M2 (zJh k v0 v1 v2 v3 v4 v5 v6 v7 v8 v9 v10) (zJh (k+1) v0 v1 v2 v3 v4 v5 v6 v7 v8 v9 v10)
 |0,_,_,_,_,_,_,_,_,_,_,_=> .none
 |k+1,_,_,_,_,_,_,_,_,_,_,_=> .cond _ (.cond _ (.bind ((yRl _).m k) (fun r7=> .bind ((yKr _ _ _ _ _ _ _ _ _ _ _ _ _ _).m k) (fun o8=> .cond _ (.const _) (.bind ((yL8 _ _ _ _ _ _ _ _ _ _ _ _).m k) (fun o9=> .cond _ (.cond _ (.cond _ (.const _) (yLv k _ _ _ _ _ _ _ _ _ _ _)) (.const _)) (.const _)))))) (.const _)) (.const _)
theorem zSh (v0 v1 v2 v3 v4 v5 v6 v7 v8 v9 v10):Lm (fun k=>zJh k v0 v1 v2 v3 v4 v5 v6 v7 v8 v9 v10) (zKc v0 v1 v2 v3 v4 v5 v6 v7 v8 v9 v10):= .of_m2 fun k=>yLv k v0 v1 v2 v3 v4 v5 v6 v7 v8 v9 v10
theorem yK0 (v0 v1 v2 v3 v4 v5 v6 v7 v8 v9 v10):zKc v0 v1 v2 v3 v4 v5 v6 v7 v8 v9 v10=zOx zMm zKg zQ7 zKc v0 v1 v2 v3 v4 v5 v6 v7 v8 v9 v10:=(zSh v0 v1 v2 v3 v4 v5 v6 v7 v8 v9 v10).shift.uniq (by unfold zOx;exact .cond _ (.cond _ (.bind (yRl _) (fun r7=> .bind (yKr _ _ _ _ _ _ _ _ _ _ _ _ _ _) (fun o8=> .cond _ (.const _) (.bind (yL8 _ _ _ _ _ _ _ _ _ _ _ _) (fun o9=> .cond _ (.cond _ (.cond _ (.const _) (zSh _ _ _ _ _ _ _ _ _ _ _)) (.const _)) (.const _)))))) (.const _)) (.const _))
noncomputable def zQ6:zT9:=zUe
theorem yLs (v0 v1 v2 v3 v4 v5 v6 v7):Lm (fun k=>zZk k v0 v1 v2 v3 v4 v5 v6 v7) (zQ6 v0 v1 v2 v3 v4 v5 v6 v7):=by
 unfold zZk zQ6 zUe
 exact .const _
noncomputable def zKf:zOm:=fun v0 v1 v2 v3 v4 v5=>lim fun k=>zJq k v0 v1 v2 v3 v4 v5
theorem zZ2:∀k v0 v1 v2 v3 v4 v5,M2 (zJq k v0 v1 v2 v3 v4 v5) (zJq (k+1) v0 v1 v2 v3 v4 v5)
 |0,_,_,_,_,_,_=> .none
 |k+1,_,_,_,_,_,_=> .cond _ (.bind (.const _) (fun e1=> .bind ((yFl _).m k) (fun r2=> .cond _ (zZ2 k _ _ _ _ _ _) (.bind ((yLs _ _ _ _ _ _ _ _).m k) (fun o4=> .elim _ (fun a5=> .bind ((zSh _ _ _ _ _ _ _ _ _ _ _).m k) (fun o10=> .elim _ (fun a11=> .cond _ (zZ2 k _ _ _ _ _ _) (.const _)) (fun b12=> .const _))) (fun b6=> .const _)))))) (.const _)
theorem zR6 (v0 v1 v2 v3 v4 v5):Lm (fun k=>zJq k v0 v1 v2 v3 v4 v5) (zKf v0 v1 v2 v3 v4 v5):= .of_m2 fun k=>zZ2 k v0 v1 v2 v3 v4 v5
theorem zZq (v0 v1 v2 v3 v4 v5):zKf v0 v1 v2 v3 v4 v5=zIn zRl zQ6 zKc zKf v0 v1 v2 v3 v4 v5:=(zR6 v0 v1 v2 v3 v4 v5).shift.uniq (by unfold zIn;exact .cond _ (.bind (.const _) (fun e1=> .bind (yFl _) (fun r2=> .cond _ (zR6 _ _ _ _ _ _) (.bind (yLs _ _ _ _ _ _ _ _) (fun o4=> .elim _ (fun a5=> .bind (zSh _ _ _ _ _ _ _ _ _ _ _) (fun o10=> .elim _ (fun a11=> .cond _ (zR6 _ _ _ _ _ _) (.const _)) (fun b12=> .const _))) (fun b6=> .const _)))))) (.const _))
noncomputable def zX0:yGw:=yGz zKf
theorem xLp (x0):Lm (fun k=>yQr k x0) (zX0 x0):=by
 unfold yQr zX0 yGz
 exact .bind (zR6 _ _ _ _ _ _) (fun o13=> .const _)
noncomputable def zBb:zFw:=zKk zDe
theorem kS (x0 x1):Lm (fun k=>zE6 k x0 x1) (zBb x0 x1):=by
 unfold zE6 zBb zKk
 exact .bind (zU3 _ _) (fun r1=> .const _)
noncomputable def zH7:zHx:=yG9
theorem wC (x0):Lm (fun k=>zPn k x0) (zH7 x0):=by
 unfold zPn zH7 yG9
 exact .const _
noncomputable def jA:zCw:=zK3
theorem xS (x0):Lm (fun k=>zE5 k x0) (jA x0):=by
 unfold zE5 jA zK3
 exact .const _
noncomputable def zIp:zL1:=zR2 zDe yV
theorem zW3 (x0 x1 x2):Lm (fun k=>zQv k x0 x1 x2) (zIp x0 x1 x2):=by
 unfold zQv zIp zR2
 exact .bind (zU3 _ _) (fun r1=> .oelim _ (.const _) (fun k2=> .bind (.const _) (fun w3=> .cond _ (.const _) (.cond _ (.const _) (.cond _ (.const _) (.cond _ (.bind (yB _) (fun r4=> .const _)) (.const _)))))))
noncomputable def zTw (i:Nat) (e:(List UInt8)×(List Int)×Int) (v0:List ((List UInt8)×(List Int)×Int)) (v1:Unit) (v2:Unit) (v3:List SG) (v4:Unit) (v5:Int) (v6:FL):Option ((List ((List UInt8)×(List Int)×Int))×Unit×Unit×(List SG)×Unit×Int×FL):=((zRl e.1).bind fun r7=>(bif r7.2 then (bif (decide (r7.1>v5)) then ((zBb v6 e.1).bind fun r8=>some (v0,(),(),v3,(),v5,r8.2)) else some (v0,(),(),v3,(),v5,v6)) else some (v0,(),(),v3,(),v5,v6)))
theorem yXm (i:Nat) (e:(List UInt8)×(List Int)×Int) (v0:List ((List UInt8)×(List Int)×Int)) (v1:Unit) (v2:Unit) (v3:List SG) (v4:Unit) (v5:Int) (v6:FL):Lm (fun k=>zQo k i e v0 v1 v2 v3 v4 v5 v6) (zTw i e v0 v1 v2 v3 v4 v5 v6):=by
 unfold zQo zTw
 exact .bind (yFl _) (fun r7=> .cond _ (.cond _ (.bind (kS _ _) (fun r8=> .const _)) (.const _)) (.const _))
noncomputable def zQz (v0:List ((List UInt8)×(List Int)×Int)) (v1:Unit) (v2:Unit) (v3:List SG) (v4:Unit) (v5:Int) (v6:FL):Option ((List ((List UInt8)×(List Int)×Int))×Unit×Unit×(List SG)×Unit×Int×FL):=(bif Nat.ble v0.length 4611686018427387904 then zSj (fun i e (x:(List ((List UInt8)×(List Int)×Int))×Unit×Unit×(List SG)×Unit×Int×FL)=>zTw i e x.1 x.2.1 x.2.2.1 x.2.2.2.1 x.2.2.2.2.1 x.2.2.2.2.2.1 x.2.2.2.2.2.2) v0 v0.length (v0,v1,v2,v3,v4,v5,v6) else none)
theorem yL3 (v0:List ((List UInt8)×(List Int)×Int)) (v1:Unit) (v2:Unit) (v3:List SG) (v4:Unit) (v5:Int) (v6:FL):Lm (fun k=>yJt k v0 v1 v2 v3 v4 v5 v6) (zQz v0 v1 v2 v3 v4 v5 v6):=Lm.cond _ (Lm.back (f:=fun k i e (x:(List ((List UInt8)×(List Int)×Int))×Unit×Unit×(List SG)×Unit×Int×FL)=>zQo k i e x.1 x.2.1 x.2.2.1 x.2.2.2.1 x.2.2.2.2.1 x.2.2.2.2.2.1 x.2.2.2.2.2.2) (fun i e x=>yXm i e x.1 x.2.1 x.2.2.1 x.2.2.2.1 x.2.2.2.2.1 x.2.2.2.2.2.1 x.2.2.2.2.2.2) _ _ _) (Lm.const _)
noncomputable def zQr:zUq:=zOh zX0
theorem yZu (v0 v1 v2 v3):Lm (fun k=>yA3 k v0 v1 v2 v3) (zQr v0 v1 v2 v3):=by
 unfold yA3 zQr zOh
 exact .bind (xLp _) (fun r3=> .const _)
noncomputable def zIb:zUc:=yAu zC7 zEy zQr zQz zH7 jA zIp
theorem zVl (x0):Lm (fun k=>yCv k x0) (zIb x0):=by
 unfold yCv zIb yAu
 exact .bind (zNa _ _) (fun r1=> .cond _ (.const _) (.bind (yEa _) (fun r2=> .bind (yZu _ _ _ _) (fun o4=> .cond _ (.cond _ (.bind (.const _) (fun w5=> .bind (.const _) (fun r6=> .bind (yL3 _ _ _ _ _ _ _) (fun o9=> .cond _ (.cond _ (.bind (.const _) (fun w10=> .bind (wC _) (fun r11=> .bind (xS _) (fun r12=> .bind (zW3 _ _ _) (fun r13=> .const _))))) (.const _)) (.const _))))) (.const _)) (.bind (.const _) (fun r14=> .bind (yL3 _ _ _ _ _ _ _) (fun o15=> .cond _ (.cond _ (.bind (.const _) (fun w16=> .bind (wC _) (fun r17=> .bind (xS _) (fun r18=> .bind (zW3 _ _ _) (fun r19=> .const _))))) (.const _)) (.const _))))))))
noncomputable def zMa:zJo:=fun v0 v1 v2=>lim fun k=>zE9 k v0 v1 v2
theorem yF9:∀k v0 v1 v2,M2 (zE9 k v0 v1 v2) (zE9 (k+1) v0 v1 v2)
 |0,_,_,_=> .none
 |k+1,_,_,_=> .cond _ (.bind (.const _) (fun e1=> .cond _ (.const _) (.cond _ (.const _) (yF9 k _ _ _)))) (.const _)
theorem zUz (v0 v1 v2):Lm (fun k=>zE9 k v0 v1 v2) (zMa v0 v1 v2):= .of_m2 fun k=>yF9 k v0 v1 v2
theorem yGq (v0 v1 v2):zMa v0 v1 v2=zJx zMa v0 v1 v2:=(zUz v0 v1 v2).shift.uniq (by unfold zJx;exact .cond _ (.bind (.const _) (fun e1=> .cond _ (.const _) (.cond _ (.const _) (zUz _ _ _)))) (.const _))
noncomputable def zTe:zWe:=zWv zMa
theorem xEb (x0):Lm (fun k=>yDb k x0) (zTe x0):=by
 unfold yDb zTe zWv
 exact .bind (zUz _ _ _) (fun o2=> .const _)
noncomputable def xW:zD0:=wR
theorem zKb (x0):Lm (fun k=>zHy k x0) (xW x0):=by
 unfold zHy xW wR
 exact .const _
noncomputable def jD:vU:=vV
theorem zQs (x0):Lm (fun k=>vA k x0) (jD x0):=by
 unfold vA jD vV
 exact .const _
noncomputable def xX:xR:=fun v0 v1 v2 v3=>lim fun k=>yC k v0 v1 v2 v3
theorem zA0:∀k v0 v1 v2 v3,M2 (yC k v0 v1 v2 v3) (yC (k+1) v0 v1 v2 v3)
 |0,_,_,_,_=> .none
 |k+1,_,_,_,_=> .cond _ (.bind (.const _) (fun e1=> .bind (.const _) (fun z2=> .cond _ (.const _) (zA0 k _ _ _ _)))) (.const _)
theorem jG (v0 v1 v2 v3):Lm (fun k=>yC k v0 v1 v2 v3) (xX v0 v1 v2 v3):= .of_m2 fun k=>zA0 k v0 v1 v2 v3
theorem zA2 (v0 v1 v2 v3):xX v0 v1 v2 v3=xF xX v0 v1 v2 v3:=(jG v0 v1 v2 v3).shift.uniq (by unfold xF;exact .cond _ (.bind (.const _) (fun e1=> .bind (.const _) (fun z2=> .cond _ (.const _) (jG _ _ _ _)))) (.const _))
theorem zA7 {g:Nat→(Option SG)→Option Bool} {g':(Option SG)→Option Bool} (hg:∀x,Lm (fun j=>g j x) (g' x)):∀(k:Nat) (v0:List (Option SG)) (v2:Int) (v3:Int),Lm (fun j=>yC k v0 (g j) v2 v3) (yC k v0 g' v2 v3)
 |0,_,_,_=>Lm.const none
 |k+1,v0,v2,v3=>by
  simp only [yC,xF]
  exact Lm.cond _ (Lm.bind (Lm.const _) (fun e1=>Lm.bind (hg _) (fun z2=>Lm.cond _ (Lm.const _) (zA7 hg k _ _ _)))) (Lm.const _)
noncomputable def yP:wD:=wE xX
theorem zBz (x0 x1):Lm (fun k=>yH k x0 x1) (yP x0 x1):=by
 unfold yH yP wE
 exact .bind (jG _ _ _ _) (fun o3=> .const _)
theorem zBy {g:Nat→(Option SG→Option Bool)} {g':Option SG→Option Bool} (hg:∀x,Lm (fun j=>g j x) (g' x)) (k:Nat) (x0:List (Option SG)):Lm (fun j=>yH k x0 (g j)) (yH k x0 g'):=by
 unfold yH wE
 exact Lm.bind (zA7 hg k _ _ _) (fun o3=>Lm.const _)
theorem zMp {g:Nat→(Option SG→Option Bool)} {g':Option SG→Option Bool} (hg:∀x,Lm (fun j=>g j x) (g' x)) (x0:List (Option SG)):Lm (fun k=>yH k x0 (g k)) (yP x0 g'):=
 Lm.diag (F:=fun k h=>yH k x0 h) (F':=fun h=>yP x0 h) (fun k=>zBy hg k _) (fun h=>zBz x0 h)
noncomputable def xN:xL:=fun v0 v1 v2 v3=>lim fun k=>zX k v0 v1 v2 v3
theorem vT:∀k v0 v1 v2 v3,M2 (zX k v0 v1 v2 v3) (zX (k+1) v0 v1 v2 v3)
 |0,_,_,_,_=> .none
 |k+1,_,_,_,_=> .cond _ (.cond _ (.bind (.const _) (fun w2=> .bind (.const _) (fun z3=> .cond _ (.cond _ (.bind (.const _) (fun _=>vT k _ _ _ _)) (.const _)) (vT k _ _ _ _)))) (.const _)) (.const _)
theorem wL (v0 v1 v2 v3):Lm (fun k=>zX k v0 v1 v2 v3) (xN v0 v1 v2 v3):= .of_m2 fun k=>vT k v0 v1 v2 v3
theorem zAo (v0 v1 v2 v3):xN v0 v1 v2 v3=xB xN v0 v1 v2 v3:=(wL v0 v1 v2 v3).shift.uniq (by unfold xB;exact .cond _ (.cond _ (.bind (.const _) (fun w2=> .bind (.const _) (fun z3=> .cond _ (.cond _ (.bind (.const _) (fun _=>wL _ _ _ _)) (.const _)) (wL _ _ _ _)))) (.const _)) (.const _))
theorem vS {g:Nat→(Option SG)→Option Bool} {g':(Option SG)→Option Bool} (hg:∀x,Lm (fun j=>g j x) (g' x)):∀(k:Nat) (v1:Int) (v2:Int) (v3:List (Option SG)),Lm (fun j=>zX k (g j) v1 v2 v3) (zX k g' v1 v2 v3)
 |0,_,_,_=>Lm.const none
 |k+1,v1,v2,v3=>by
  simp only [zX,xB]
  exact Lm.cond _ (Lm.cond _ (Lm.bind (Lm.const _) (fun w2=>Lm.bind (hg _) (fun z3=>Lm.cond _ (Lm.cond _ (Lm.bind (Lm.const _) (fun _=>vS hg k _ _ _)) (Lm.const _)) (vS hg k _ _ _)))) (Lm.const _)) (Lm.const _)
noncomputable def yZ:vB:=wA yP xN
theorem zMf (x0 x1):Lm (fun k=>yJ k x0 x1) (yZ x0 x1):=by
 unfold yJ yZ wA
 exact .bind (zBz _ _) (fun r1=> .cond _ (.const _) (.bind (wL _ _ _ _) (fun o5=> .const _)))
theorem zMe {g:Nat→(Option SG→Option Bool)} {g':Option SG→Option Bool} (hg:∀x,Lm (fun j=>g j x) (g' x)) (k:Nat) (x0:List (Option SG)):Lm (fun j=>yJ k x0 (g j)) (yJ k x0 g'):=by
 unfold yJ wA
 exact Lm.bind (zBy hg k _) (fun r1=>Lm.cond _ (Lm.const _) (Lm.bind (vS hg k _ _ _) (fun o5=>Lm.const _)))
theorem zLu {g:Nat→(Option SG→Option Bool)} {g':Option SG→Option Bool} (hg:∀x,Lm (fun j=>g j x) (g' x)) (x0:List (Option SG)):Lm (fun k=>yJ k x0 (g k)) (yZ x0 g'):=
 Lm.diag (F:=fun k h=>yJ k x0 h) (F':=fun h=>yZ x0 h) (fun k=>zMe hg k _) (fun h=>zMf x0 h)
noncomputable def zY8:zP2:=zW0
theorem yWn (x0):Lm (fun k=>zTx k x0) (zY8 x0):=by
 unfold zTx zY8 zW0
 exact .const _
noncomputable def zKi:zOt:=zUu xW jD yZ zY8
theorem yLw (x0):Lm (fun k=>zTu k x0) (zKi x0):=by
 unfold zTu zKi zUu
 exact .bind (zKb _) (fun r1=> .cond _ (.const _) (.bind (zQs _) (fun r2=> .bind (zLu (fun y3=> .bind (yWn _) (fun z=>Lm.const (some z))) _) (fun r4=> .const _))))
noncomputable def vK:zCt:=zB9
theorem zJ5 (x0):Lm (fun k=>zFa k x0) (vK x0):=by
 unfold zFa vK zB9
 exact .const _
noncomputable def zBv:zFc:=zUt zKi vK
theorem zMb (x0):Lm (fun k=>zJw k x0) (zBv x0):=by
 unfold zJw zBv zUt
 exact .bind (yLw _) (fun r1=> .cond _ (.const _) (.cond _ (.bind (.const _) (fun w2=> .bind (.const _) (fun w3=> .bind (zJ5 _) (fun r4=> .const _)))) (.const _)))
noncomputable def zEd:zNv:=zT0 xW zH7 zC7
theorem yAf (x0):Lm (fun k=>zSv k x0) (zEd x0):=by
 unfold zSv zEd zT0
 exact .bind (zKb _) (fun r1=> .cond _ (.cond _ (.cond _ (.const _) (.bind (.const _) (fun w2=> .cond _ (.cond _ (.const _) (.bind (.const _) (fun w3=> .bind (wC _) (fun r4=> .bind (zNa _ _) (fun r5=> .const _))))) (.const _)))) (.const _)) (.const _))
noncomputable def zD8:zFy:=fun v0 v1 v2=>lim fun k=>zB6 k v0 v1 v2
theorem yBs:∀k v0 v1 v2,M2 (zB6 k v0 v1 v2) (zB6 (k+1) v0 v1 v2)
 |0,_,_,_=> .none
 |k+1,_,_,_=> .cond _ (.bind (.const _) (fun c1=> .cond _ (.const _) (.bind (.const _) (fun c2=> .cond _ (.const _) (.bind (.const _) (fun c3=>yBs k _ _ _)))))) (.const _)
theorem zRq (v0 v1 v2):Lm (fun k=>zB6 k v0 v1 v2) (zD8 v0 v1 v2):= .of_m2 fun k=>yBs k v0 v1 v2
theorem yBf (v0 v1 v2):zD8 v0 v1 v2=zF4 zD8 v0 v1 v2:=(zRq v0 v1 v2).shift.uniq (by unfold zF4;exact .cond _ (.bind (.const _) (fun c1=> .cond _ (.const _) (.bind (.const _) (fun c2=> .cond _ (.const _) (.bind (.const _) (fun c3=>zRq _ _ _)))))) (.const _))
noncomputable def zEf:zEx:=zT8 zD8
theorem zGd (x0):Lm (fun k=>zJa k x0) (zEf x0):=by
 unfold zJa zEf zT8
 exact .cond _ (.const _) (.cond _ (.cond _ (.const _) (.bind (zRq _ _ _) (fun o4=> .const _))) (.const _))
noncomputable def zMo:yAn:=zTv
theorem yRm (x0):Lm (fun k=>yG7 k x0) (zMo x0):=by
 unfold yG7 zMo zTv
 exact .const _
noncomputable def zTb:zWs:=zQ8
theorem xDc (x0 x1 x2):Lm (fun k=>yDi k x0 x1 x2) (zTb x0 x1 x2):=by
 unfold yDi zTb zQ8
 exact .const _
noncomputable def zBt:zA4:=fun v0 v1 v2 v3=>lim fun k=>jO k v0 v1 v2 v3
theorem zIv:∀k v0 v1 v2 v3,M2 (jO k v0 v1 v2 v3) (jO (k+1) v0 v1 v2 v3)
 |0,_,_,_,_=> .none
 |k+1,_,_,_,_=> .cond _ (.bind ((yRm _).m k) (fun r1=> .cond _ (.const _) (.cond _ (.cond _ (.const _) (.cond _ (.cond _ (.const _) (zIv k _ _ _ _)) (.const _))) (.cond _ (.cond _ (.const _) (zIv k _ _ _ _)) (.const _))))) (.const _)
theorem zDj (v0 v1 v2 v3):Lm (fun k=>jO k v0 v1 v2 v3) (zBt v0 v1 v2 v3):= .of_m2 fun k=>zIv k v0 v1 v2 v3
theorem zDa (v0 v1 v2 v3):zBt v0 v1 v2 v3=jE zMo zBt v0 v1 v2 v3:=(zDj v0 v1 v2 v3).shift.uniq (by unfold jE;exact .cond _ (.bind (yRm _) (fun r1=> .cond _ (.const _) (.cond _ (.cond _ (.const _) (.cond _ (.cond _ (.const _) (zDj _ _ _ _)) (.const _))) (.cond _ (.cond _ (.const _) (zDj _ _ _ _)) (.const _))))) (.const _))
noncomputable def zAe:zEl:=zJy zBt zTb
theorem zPd (x0):Lm (fun k=>zG9 k x0) (zAe x0):=by
 unfold zG9 zAe zJy
 exact .bind (zDj _ _ _ _) (fun o2=> .elim _ (fun a3=> .bind (xDc _ _ _) (fun r5=> .const _)) (fun b4=> .const _))
noncomputable def zHf:zF0:=fun v0 v1=>lim fun k=>zB1 k v0 v1
theorem yBg:∀k v0 v1,M2 (zB1 k v0 v1) (zB1 (k+1) v0 v1)
 |0,_,_=> .none
 |k+1,_,_=> .cond _ (.cond _ (yBg k _ _) (.const _)) (.const _)
theorem zRo (v0 v1):Lm (fun k=>zB1 k v0 v1) (zHf v0 v1):= .of_m2 fun k=>yBg k v0 v1
theorem ySi (v0 v1):zHf v0 v1=zLg zHf v0 v1:=(zRo v0 v1).shift.uniq (by unfold zLg;exact .cond _ (.cond _ (zRo _ _) (.const _)) (.const _))
noncomputable def jP:zDi:=zR7 zHf
theorem zI3 (x0):Lm (fun k=>zG3 k x0) (jP x0):=by
 unfold zG3 jP zR7
 exact .bind (zRo _ _) (fun o1=> .const _)
noncomputable def zF8:zWd:=zQ0 zAe jP
theorem yN7 (x0):Lm (fun k=>yC3 k x0) (zF8 x0):=by
 unfold yC3 zF8 zQ0
 exact .bind (zPd _) (fun r1=> .bind (zI3 _) (fun r2=> .const _))
noncomputable def zQq:zN7:=fun v0 v1 v2 v3=>lim fun k=>zIr k v0 v1 v2 v3
theorem yA4:∀k v0 v1 v2 v3,M2 (zIr k v0 v1 v2 v3) (zIr (k+1) v0 v1 v2 v3)
 |0,_,_,_,_=> .none
 |k+1,_,_,_,_=> .cond _ (.bind (.const _) (fun e1=> .cond _ (.cond _ (yA4 k _ _ _ _) (yA4 k _ _ _ _)) (.const _))) (.const _)
theorem zLw (v0 v1 v2 v3):Lm (fun k=>zIr k v0 v1 v2 v3) (zQq v0 v1 v2 v3):= .of_m2 fun k=>yA4 k v0 v1 v2 v3
theorem yLi (v0 v1 v2 v3):zQq v0 v1 v2 v3=zOl zQq v0 v1 v2 v3:=(zLw v0 v1 v2 v3).shift.uniq (by unfold zOl;exact .cond _ (.bind (.const _) (fun e1=> .cond _ (.cond _ (zLw _ _ _ _) (zLw _ _ _ _)) (.const _))) (.const _))
noncomputable def zS8:zQ3:=fun v0 v1 v2=>lim fun k=>zMj k v0 v1 v2
theorem yNs:∀k v0 v1 v2,M2 (zMj k v0 v1 v2) (zMj (k+1) v0 v1 v2)
 |0,_,_,_=> .none
 |k+1,_,_,_=> .cond _ (.bind ((zLw _ _ _ _).m k) (fun o2=>yNs k _ _ _)) (.const _)
theorem yB5 (v0 v1 v2):Lm (fun k=>zMj k v0 v1 v2) (zS8 v0 v1 v2):= .of_m2 fun k=>yNs k v0 v1 v2
theorem yMs (v0 v1 v2):zS8 v0 v1 v2=zQ1 zQq zS8 v0 v1 v2:=(yB5 v0 v1 v2).shift.uniq (by unfold zQ1;exact .cond _ (.bind (zLw _ _ _ _) (fun o2=>yB5 _ _ _)) (.const _))
noncomputable def yDo:yGx:=yHq zS8
theorem xLy (x0):Lm (fun k=>yQk k x0) (yDo x0):=by
 unfold yQk yDo yHq
 exact .bind (yB5 _ _ _) (fun o3=> .const _)
noncomputable def zRi:zTj:=zZ3 yDo
theorem yE7 (x0):Lm (fun k=>yAe k x0) (zRi x0):=by
 unfold yAe zRi zZ3
 exact .bind (xLy _) (fun r1=> .const _)
noncomputable def zLi:zI4:=fun v0 v1=>lim fun k=>zEv k v0 v1
theorem yGi:∀k v0 v1,M2 (zEv k v0 v1) (zEv (k+1) v0 v1)
 |0,_,_=> .none
 |k+1,_,_=> .cond _ (.bind (.const _) (fun e1=> .cond _ (.const _) (yGi k _ _))) (.const _)
theorem zVb (v0 v1):Lm (fun k=>zEv k v0 v1) (zLi v0 v1):= .of_m2 fun k=>yGi k v0 v1
theorem yF7 (v0 v1):zLi v0 v1=zJk zLi v0 v1:=(zVb v0 v1).shift.uniq (by unfold zJk;exact .cond _ (.bind (.const _) (fun e1=> .cond _ (.const _) (zVb _ _))) (.const _))
noncomputable def zV3:zZd:=yA2 zLi
theorem xGr (x0):Lm (fun k=>yHh k x0) (zV3 x0):=by
 unfold yHh zV3 yA2
 exact .cond _ (.const _) (.bind (zVb _ _) (fun o2=> .const _))
noncomputable def zE3:zLf:=fun v0 v1 v2=>lim fun k=>zG1 k v0 v1 v2
theorem yI0:∀k v0 v1 v2,M2 (zG1 k v0 v1 v2) (zG1 (k+1) v0 v1 v2)
 |0,_,_,_=> .none
 |k+1,_,_,_=> .cond _ (.cond _ (.cond _ (.bind ((yN7 _).m k) (fun r1=> .cond _ (yI0 k _ _ _) (.cond _ (.const _) (.cond _ (.const _) (.cond _ (.const _) (.cond _ (.cond _ (.bind ((yE7 _).m k) (fun r2=> .const _)) (.const _)) (.const _))))))) (.const _)) (.const _)) (.const _)
theorem zWy (v0 v1 v2):Lm (fun k=>zG1 k v0 v1 v2) (zE3 v0 v1 v2):= .of_m2 fun k=>yI0 k v0 v1 v2
theorem yKb (v0 v1 v2):zE3 v0 v1 v2=zKm zF8 zRi zE3 v0 v1 v2:=(zWy v0 v1 v2).shift.uniq (by unfold zKm;exact .cond _ (.cond _ (.cond _ (.bind (yN7 _) (fun r1=> .cond _ (zWy _ _ _) (.cond _ (.const _) (.cond _ (.const _) (.cond _ (.const _) (.cond _ (.cond _ (.bind (yE7 _) (fun r2=> .const _)) (.const _)) (.const _))))))) (.const _)) (.const _)) (.const _))
noncomputable def zV4:zZo:=yAb zE3 zV3
theorem xF3 (x0):Lm (fun k=>yHp k x0) (zV4 x0):=by
 unfold yHp zV4 yAb
 exact .bind (zWy _ _ _) (fun o4=> .elim _ (fun a5=> .bind (xGr _) (fun r7=> .const _)) (fun b6=> .const _))
noncomputable def zIh:zLc:=fun v0 v1 v2 v3=>lim fun k=>zG7 k v0 v1 v2 v3
theorem yJx:∀k v0 v1 v2 v3,M2 (zG7 k v0 v1 v2 v3) (zG7 (k+1) v0 v1 v2 v3)
 |0,_,_,_,_=> .none
 |k+1,_,_,_,_=> .cond _ (.cond _ (.cond _ (.bind ((zPd _).m k) (fun r2=> .bind ((zI3 _).m k) (fun r3=> .cond _ (.cond _ (.const _) (yJx k _ _ _ _)) (.const _)))) (.const _)) (.const _)) (.const _)
theorem zXc (v0 v1 v2 v3):Lm (fun k=>zG7 k v0 v1 v2 v3) (zIh v0 v1 v2 v3):= .of_m2 fun k=>yJx k v0 v1 v2 v3
theorem yYp (v0 v1 v2 v3):zIh v0 v1 v2 v3=zSb zAe jP zIh v0 v1 v2 v3:=(zXc v0 v1 v2 v3).shift.uniq (by unfold zSb;exact .cond _ (.cond _ (.cond _ (.bind (zPd _) (fun r2=> .bind (zI3 _) (fun r3=> .cond _ (.cond _ (.const _) (zXc _ _ _ _)) (.const _)))) (.const _)) (.const _)) (.const _))
noncomputable def zPp:yC1:=zVq zV4 zIh
theorem yUj (x0):Lm (fun k=>yKq k x0) (zPp x0):=by
 unfold yKq zPp zVq
 exact .bind (xF3 _) (fun r1=> .cond _ (.const _) (.cond _ (.const _) (.bind (zXc _ _ _ _) (fun o4=> .const _))))
noncomputable def kQ:zC9:=fun v0 v1 v2 v3 v4 v5 v6 v7 v8=>lim fun k=>zAg k v0 v1 v2 v3 v4 v5 v6 v7 v8
theorem zOd:∀k v0 v1 v2 v3 v4 v5 v6 v7 v8,M2 (zAg k v0 v1 v2 v3 v4 v5 v6 v7 v8) (zAg (k+1) v0 v1 v2 v3 v4 v5 v6 v7 v8)
 |0,_,_,_,_,_,_,_,_,_=> .none
 |k+1,_,_,_,_,_,_,_,_,_=> .bind (.const _) (fun e3=> .cond _ (.bind (.const _) (fun e4=> .cond _ (.bind ((yUj _).m k) (fun r5=> .cond _ (.const _) (.cond _ (.cond _ (.const _) (.cond _ (.cond _ (.cond _ (.const _) (zOd k _ _ _ _ _ _ _ _ _)) (.const _)) (.const _))) (.cond _ (.cond _ (.cond _ (.const _) (zOd k _ _ _ _ _ _ _ _ _)) (.const _)) (.const _))))) (.const _))) (.const _))
theorem jU (v0 v1 v2 v3 v4 v5 v6 v7 v8):Lm (fun k=>zAg k v0 v1 v2 v3 v4 v5 v6 v7 v8) (kQ v0 v1 v2 v3 v4 v5 v6 v7 v8):= .of_m2 fun k=>zOd k v0 v1 v2 v3 v4 v5 v6 v7 v8
theorem zXr (v0 v1 v2 v3 v4 v5 v6 v7 v8):kQ v0 v1 v2 v3 v4 v5 v6 v7 v8=zDm zPp kQ v0 v1 v2 v3 v4 v5 v6 v7 v8:=(jU v0 v1 v2 v3 v4 v5 v6 v7 v8).shift.uniq (by unfold zDm;exact .bind (.const _) (fun e3=> .cond _ (.bind (.const _) (fun e4=> .cond _ (.bind (yUj _) (fun r5=> .cond _ (.const _) (.cond _ (.cond _ (.const _) (.cond _ (.cond _ (.cond _ (.const _) (jU _ _ _ _ _ _ _ _ _)) (.const _)) (.const _))) (.cond _ (.cond _ (.cond _ (.const _) (jU _ _ _ _ _ _ _ _ _)) (.const _)) (.const _))))) (.const _))) (.const _)))
noncomputable def zBl:zDp:=fun v0 v1 v2 v3 v4=>lim fun k=>zAp k v0 v1 v2 v3 v4
theorem zGe:∀k v0 v1 v2 v3 v4,M2 (zAp k v0 v1 v2 v3 v4) (zAp (k+1) v0 v1 v2 v3 v4)
 |0,_,_,_,_,_=> .none
 |k+1,_,_,_,_,_=> .cond _ (.bind (.const _) (fun e1=> .bind ((zGd _).m k) (fun r2=> .cond _ (zGe k _ _ _ _ _) (.cond _ (.cond _ (.const _) (.bind ((jU _ _ _ _ _ _ _ _ _).m k) (fun o6=> .elim _ (fun a7=> .cond _ (zGe k _ _ _ _ _) (.const _)) (fun b8=> .const _)))) (.bind ((jU _ _ _ _ _ _ _ _ _).m k) (fun o9=> .elim _ (fun a10=> .cond _ (zGe k _ _ _ _ _) (.const _)) (fun b11=> .const _))))))) (.const _)
theorem zCe (v0 v1 v2 v3 v4):Lm (fun k=>zAp k v0 v1 v2 v3 v4) (zBl v0 v1 v2 v3 v4):= .of_m2 fun k=>zGe k v0 v1 v2 v3 v4
theorem zX9 (v0 v1 v2 v3 v4):zBl v0 v1 v2 v3 v4=zDc zEf kQ zBl v0 v1 v2 v3 v4:=(zCe v0 v1 v2 v3 v4).shift.uniq (by unfold zDc;exact .cond _ (.bind (.const _) (fun e1=> .bind (zGd _) (fun r2=> .cond _ (zCe _ _ _ _ _) (.cond _ (.cond _ (.const _) (.bind (jU _ _ _ _ _ _ _ _ _) (fun o6=> .elim _ (fun a7=> .cond _ (zCe _ _ _ _ _) (.const _)) (fun b8=> .const _)))) (.bind (jU _ _ _ _ _ _ _ _ _) (fun o9=> .elim _ (fun a10=> .cond _ (zCe _ _ _ _ _) (.const _)) (fun b11=> .const _))))))) (.const _))
noncomputable def vD:kF:=zPj zBl
theorem zD6 (x0):Lm (fun k=>zAt k x0) (vD x0):=by
 unfold zAt vD zPj
 exact .bind (zCe _ _ _ _ _) (fun o12=> .const _)
noncomputable def zLl:zI5:=fun v0 v1 v2=>lim fun k=>zFb k v0 v1 v2
theorem yGg:∀k v0 v1 v2,M2 (zFb k v0 v1 v2) (zFb (k+1) v0 v1 v2)
 |0,_,_,_=> .none
 |k+1,_,_,_=> .cond _ (.bind (.const _) (fun e1=> .cond _ (.const _) (yGg k _ _ _))) (.const _)
theorem zVa (v0 v1 v2):Lm (fun k=>zFb k v0 v1 v2) (zLl v0 v1 v2):= .of_m2 fun k=>yGg k v0 v1 v2
theorem yF0 (v0 v1 v2):zLl v0 v1 v2=zIu zLl v0 v1 v2:=(zVa v0 v1 v2).shift.uniq (by unfold zIu;exact .cond _ (.bind (.const _) (fun e1=> .cond _ (.const _) (zVa _ _ _))) (.const _))
noncomputable def zF5:zG0:=zWo zLl
theorem zUg (x0 x1):Lm (fun k=>zM2 k x0 x1) (zF5 x0 x1):=by
 unfold zM2 zF5 zWo
 exact .bind (zVa _ _ _) (fun o2=> .const _)
noncomputable def zN4:zLv:=fun v0 v1 v2 v3 v4=>lim fun k=>zGt k v0 v1 v2 v3 v4
theorem zB4:∀k v0 v1 v2 v3 v4,M2 (zGt k v0 v1 v2 v3 v4) (zGt (k+1) v0 v1 v2 v3 v4)
 |0,_,_,_,_,_=> .none
 |k+1,_,_,_,_,_=> .cond _ (.cond _ (.bind (.const _) (fun e1=> .cond _ (.cond _ (.bind (.const _) (fun e2=> .cond _ (.bind (.const _) (fun e3=> .cond _ (zB4 k _ _ _ _ _) (.const _))) (zB4 k _ _ _ _ _))) (.const _)) (.bind (.const _) (fun e4=> .cond _ (.bind (.const _) (fun e5=> .cond _ (zB4 k _ _ _ _ _) (.const _))) (zB4 k _ _ _ _ _))))) (.bind (.const _) (fun e6=> .cond _ (.bind (.const _) (fun e7=> .cond _ (zB4 k _ _ _ _ _) (.const _))) (zB4 k _ _ _ _ _)))) (.const _)
theorem zAl (v0 v1 v2 v3 v4):Lm (fun k=>zGt k v0 v1 v2 v3 v4) (zN4 v0 v1 v2 v3 v4):= .of_m2 fun k=>zB4 k v0 v1 v2 v3 v4
theorem yJb (v0 v1 v2 v3 v4):zN4 v0 v1 v2 v3 v4=zK5 zN4 v0 v1 v2 v3 v4:=(zAl v0 v1 v2 v3 v4).shift.uniq (by unfold zK5;exact .cond _ (.cond _ (.bind (.const _) (fun e1=> .cond _ (.cond _ (.bind (.const _) (fun e2=> .cond _ (.bind (.const _) (fun e3=> .cond _ (zAl _ _ _ _ _) (.const _))) (zAl _ _ _ _ _))) (.const _)) (.bind (.const _) (fun e4=> .cond _ (.bind (.const _) (fun e5=> .cond _ (zAl _ _ _ _ _) (.const _))) (zAl _ _ _ _ _))))) (.bind (.const _) (fun e6=> .cond _ (.bind (.const _) (fun e7=> .cond _ (zAl _ _ _ _ _) (.const _))) (zAl _ _ _ _ _)))) (.const _))
noncomputable def zQe:zRm:=yC7 zN4
theorem zTh (x0 x1):Lm (fun k=>zXs k x0 x1) (zQe x0 x1):=by
 unfold zXs zQe yC7
 exact .bind (zAl _ _ _ _ _) (fun o8=> .const _)
noncomputable def zRh:zTc:=zYi zF5 zQe
theorem yE6 (x0 x1):Lm (fun k=>zZs k x0 x1) (zRh x0 x1):=by
 unfold zZs zRh zYi
 exact .bind (zUg _ _) (fun r1=> .cond _ (.const _) (.bind (.const _) (fun e2=> .bind (zTh _ _) (fun r3=> .const _))))
noncomputable def zIa:yA5:=zSo vD zRh
theorem yRi (x0):Lm (fun k=>yHl k x0) (zIa x0):=by
 unfold yHl zIa zSo
 exact .bind (zD6 _) (fun r1=> .cond _ (.cond _ (.bind (.const _) (fun w2=> .bind (.const _) (fun e3=> .bind (yE6 _ _) (fun r4=> .const _)))) (.const _)) (.const _))
noncomputable def zKq:zI6:=fun v0 v1 v2=>lim fun k=>zEz k v0 v1 v2
theorem yGh:∀k v0 v1 v2,M2 (zEz k v0 v1 v2) (zEz (k+1) v0 v1 v2)
 |0,_,_,_=> .none
 |k+1,_,_,_=> .cond _ (.bind (.const _) (fun e1=> .bind (.const _) (fun e2=> .cond _ (.const _) (.bind (.const _) (fun e3=> .bind (.const _) (fun e4=> .cond _ (.const _) (.bind (.const _) (fun e5=> .bind (.const _) (fun e6=> .cond _ (.const _) (yGh k _ _ _)))))))))) (.const _)
theorem zU1 (v0 v1 v2):Lm (fun k=>zEz k v0 v1 v2) (zKq v0 v1 v2):= .of_m2 fun k=>yGh k v0 v1 v2
theorem yGp (v0 v1 v2):zKq v0 v1 v2=zIw zKq v0 v1 v2:=(zU1 v0 v1 v2).shift.uniq (by unfold zIw;exact .cond _ (.bind (.const _) (fun e1=> .bind (.const _) (fun e2=> .cond _ (.const _) (.bind (.const _) (fun e3=> .bind (.const _) (fun e4=> .cond _ (.const _) (.bind (.const _) (fun e5=> .bind (.const _) (fun e6=> .cond _ (.const _) (zU1 _ _ _)))))))))) (.const _))
noncomputable def zVx:zZw:=zY2 zKq
theorem xF5 (x0 x1):Lm (fun k=>yHn k x0 x1) (zVx x0 x1):=by
 unfold yHn zVx zY2
 exact .cond _ (.const _) (.bind (zU1 _ _ _) (fun o7=> .const _))
noncomputable def zGi:zI1:=fun v0 v1 v2=>lim fun k=>zE2 k v0 v1 v2
theorem yGc:∀k v0 v1 v2,M2 (zE2 k v0 v1 v2) (zE2 (k+1) v0 v1 v2)
 |0,_,_,_=> .none
 |k+1,_,_,_=> .cond _ (.cond _ (.bind (.const _) (fun w2=> .cond _ (yGc k _ _ _) (.const _))) (.const _)) (.const _)
theorem zVc (v0 v1 v2):Lm (fun k=>zE2 k v0 v1 v2) (zGi v0 v1 v2):= .of_m2 fun k=>yGc k v0 v1 v2
theorem yGo (v0 v1 v2):zGi v0 v1 v2=zI8 zGi v0 v1 v2:=(zVc v0 v1 v2).shift.uniq (by unfold zI8;exact .cond _ (.cond _ (.bind (.const _) (fun w2=> .cond _ (zVc _ _ _) (.const _))) (.const _)) (.const _))
noncomputable def zRj:zTr:=zY0 vD zGi
theorem yRr (x0):Lm (fun k=>yAm k x0) (zRj x0):=by
 unfold yAm zRj zY0
 exact .bind (zD6 _) (fun r1=> .bind (zVc _ _ _) (fun o3=> .const _))
noncomputable def zLz:zQf:=zP0 vK
theorem yWf (x0 x1):Lm (fun k=>zUh k x0 x1) (zLz x0 x1):=by
 unfold zUh zLz zP0
 exact .bind (.const _) (fun w1=> .cond _ (.bind (.const _) (fun w2=> .cond _ (.bind (.const _) (fun w3=> .bind (zJ5 _) (fun r4=> .const _))) (.const _))) (.const _))
noncomputable def zGw:zIk:=zUf xW yP zLz
theorem yAh (x0 x1):Lm (fun k=>zOe k x0 x1) (zGw x0 x1):=by
 unfold zOe zGw zUf
 exact .bind (zKb _) (fun r1=> .cond _ (.const _) (.bind (zMp (fun y2=> .bind (yWf _ _) (fun z=>Lm.const (some z))) _) (fun r3=> .const _)))
noncomputable def kJ:zKd:=zQm zGw yV
theorem zEu (x0 x1):Lm (fun k=>zRf k x0 x1) (kJ x0 x1):=by
 unfold zRf kJ zQm
 exact .bind (yAh _ _) (fun r1=> .cond _ (.const _) (.bind (.const _) (fun e2=> .bind (.const _) (fun w3=> .bind (.const _) (fun w4=> .bind (.const _) (fun e5=> .bind (yB _) (fun r6=> .const _)))))))
noncomputable def zIo:zL4:=zR8 zKi
theorem zWw (x0):Lm (fun k=>zRa k x0) (zIo x0):=by
 unfold zRa zIo zR8
 exact .bind (yLw _) (fun r1=> .const _)
noncomputable def zGx:zOz:=fun v0 v1 v2 v3 v4 v5 v6=>lim fun k=>zIs k v0 v1 v2 v3 v4 v5 v6
theorem yK5:∀k v0 v1 v2 v3 v4 v5 v6,M2 (zIs k v0 v1 v2 v3 v4 v5 v6) (zIs (k+1) v0 v1 v2 v3 v4 v5 v6)
 |0,_,_,_,_,_,_,_=> .none
 |k+1,_,_,_,_,_,_,_=> .cond _ (.cond _ (.bind (.const _) (fun w6=> .bind ((zEu _ _).m k) (fun r7=> .cond _ (.const _) (.cond _ (.bind (.const _) (fun w8=> .cond _ (.const _) (yK5 k _ _ _ _ _ _ _))) (.const _))))) (.const _)) (.const _)
theorem zRx (v0 v1 v2 v3 v4 v5 v6):Lm (fun k=>zIs k v0 v1 v2 v3 v4 v5 v6) (zGx v0 v1 v2 v3 v4 v5 v6):= .of_m2 fun k=>yK5 k v0 v1 v2 v3 v4 v5 v6
theorem yLu (v0 v1 v2 v3 v4 v5 v6):zGx v0 v1 v2 v3 v4 v5 v6=zOj kJ zGx v0 v1 v2 v3 v4 v5 v6:=(zRx v0 v1 v2 v3 v4 v5 v6).shift.uniq (by unfold zOj;exact .cond _ (.cond _ (.bind (.const _) (fun w6=> .bind (zEu _ _) (fun r7=> .cond _ (.const _) (.cond _ (.bind (.const _) (fun w8=> .cond _ (.const _) (zRx _ _ _ _ _ _ _))) (.const _))))) (.const _)) (.const _))
noncomputable def yD5:yHa:=yHo zEy zVx zRj zGx kJ zIo zBv
theorem zC3 (x0 x1 x2):Lm (fun k=>yP2 k x0 x1 x2) (yD5 x0 x1 x2):=by
 unfold yP2 yD5 yHo
 exact .bind (yEa _) (fun r1=> .bind (xF5 _ _) (fun r2=> .cond _ (.const _) (.bind (yRr _) (fun r3=> .cond _ (.cond _ (.bind (.const _) (fun w4=> .cond _ (.bind (.const _) (fun w5=> .bind (zRx _ _ _ _ _ _ _) (fun o9=> .elim _ (fun a10=> .bind (zEu _ _) (fun r12=> .bind (zEu _ _) (fun r13=> .bind (zWw _) (fun r14=> .cond _ (.bind (zMb _) (fun r15=> .const _)) (.const _))))) (fun b11=> .const _)))) (.const _))) (.const _)) (.bind (zRx _ _ _ _ _ _ _) (fun o16=> .elim _ (fun a17=> .bind (zEu _ _) (fun r19=> .bind (zEu _ _) (fun r20=> .bind (zWw _) (fun r21=> .cond _ (.bind (zMb _) (fun r22=> .const _)) (.const _))))) (fun b18=> .const _)))))))
noncomputable def zDb:zCu:=fun v0 v1 v2 v3 v4 v5=>lim fun k=>kT k v0 v1 v2 v3 v4 v5
theorem zV2:∀k v0 v1 v2 v3 v4 v5,M2 (kT k v0 v1 v2 v3 v4 v5) (kT (k+1) v0 v1 v2 v3 v4 v5)
 |0,_,_,_,_,_,_=> .none
 |k+1,_,_,_,_,_,_=> .cond _ (.cond _ (.cond _ (.const _) (.bind (.const _) (fun w3=> .bind ((wC _).m k) (fun r4=> .bind ((kS _ _).m k) (fun r5=> .cond _ (zV2 k _ _ _ _ _ _) (.const _)))))) (.const _)) (.const _)
theorem zMh (v0 v1 v2 v3 v4 v5):Lm (fun k=>kT k v0 v1 v2 v3 v4 v5) (zDb v0 v1 v2 v3 v4 v5):= .of_m2 fun k=>zV2 k v0 v1 v2 v3 v4 v5
theorem zV6 (v0 v1 v2 v3 v4 v5):zDb v0 v1 v2 v3 v4 v5=zCk zH7 zBb zDb v0 v1 v2 v3 v4 v5:=(zMh v0 v1 v2 v3 v4 v5).shift.uniq (by unfold zCk;exact .cond _ (.cond _ (.cond _ (.const _) (.bind (.const _) (fun w3=> .bind (wC _) (fun r4=> .bind (kS _ _) (fun r5=> .cond _ (zMh _ _ _ _ _ _) (.const _)))))) (.const _)) (.const _))
noncomputable def zAi:zM7:=zHp xW zGw zDb zH7 jA zIp
theorem yEf (x0 x1):Lm (fun k=>zSg k x0 x1) (zAi x0 x1):=by
 unfold zSg zAi zHp
 exact .bind (zKb _) (fun r1=> .cond _ (.const _) (.bind (yAh _ _) (fun r2=> .cond _ (.const _) (.bind (zMh _ _ _ _ _ _) (fun o6=> .cond _ (.bind (.const _) (fun w7=> .cond _ (.cond _ (.bind (wC _) (fun r8=> .bind (xS _) (fun r9=> .bind (zW3 _ _ _) (fun r10=> .const _)))) (.const _)) (.const _))) (.const _))))))
noncomputable def zI0:zHb:=fun v0 v1 v2 v3=>lim fun k=>zC5 k v0 v1 v2 v3
theorem yD1:∀k v0 v1 v2 v3,M2 (zC5 k v0 v1 v2 v3) (zC5 (k+1) v0 v1 v2 v3)
 |0,_,_,_,_=> .none
 |k+1,_,_,_,_=> .bind (.const _) (fun e1=> .cond _ (.bind (.const _) (fun e2=> .bind (.const _) (fun e3=> .cond _ (.const _) (yD1 k _ _ _ _)))) (.const _))
theorem zMd (v0 v1 v2 v3):Lm (fun k=>zC5 k v0 v1 v2 v3) (zI0 v0 v1 v2 v3):= .of_m2 fun k=>yD1 k v0 v1 v2 v3
theorem yEl (v0 v1 v2 v3):zI0 v0 v1 v2 v3=zHi zI0 v0 v1 v2 v3:=(zMd v0 v1 v2 v3).shift.uniq (by unfold zHi;exact .bind (.const _) (fun e1=> .cond _ (.bind (.const _) (fun e2=> .bind (.const _) (fun e3=> .cond _ (.const _) (zMd _ _ _ _)))) (.const _)))
noncomputable def jV:zJc:=fun v0 v1 v2=>lim fun k=>zFf k v0 v1 v2
theorem yGl:∀k v0 v1 v2,M2 (zFf k v0 v1 v2) (zFf (k+1) v0 v1 v2)
 |0,_,_,_=> .none
 |k+1,_,_,_=> .cond _ (.bind ((zMd _ _ _ _).m k) (fun o4=> .elim _ (fun a5=>yGl k _ _ _) (fun b6=> .const _))) (.const _)
theorem zU4 (v0 v1 v2):Lm (fun k=>zFf k v0 v1 v2) (jV v0 v1 v2):= .of_m2 fun k=>yGl k v0 v1 v2
theorem zNj (v0 v1 v2):jV v0 v1 v2=zB3 zI0 jV v0 v1 v2:=(zU4 v0 v1 v2).shift.uniq (by unfold zB3;exact .cond _ (.bind (zMd _ _ _ _) (fun o4=> .elim _ (fun a5=>zU4 _ _ _) (fun b6=> .const _))) (.const _))
noncomputable def zBu:zQ9:=zGu jV
theorem yM2 (x0 x1):Lm (fun k=>zV1 k x0 x1) (zBu x0 x1):=by
 unfold zV1 zBu zGu
 exact .bind (zU4 _ _ _) (fun o7=> .const _)
noncomputable def zQp:zN8:=fun v0 v1 v2 v3=>lim fun k=>zIy k v0 v1 v2 v3
theorem yA7:∀k v0 v1 v2 v3,M2 (zIy k v0 v1 v2 v3) (zIy (k+1) v0 v1 v2 v3)
 |0,_,_,_,_=> .none
 |k+1,_,_,_,_=> .cond _ (.bind (.const _) (fun e1=> .cond _ (.bind (.const _) (fun e2=> .cond _ (yA7 k _ _ _ _) (.const _))) (yA7 k _ _ _ _))) (.const _)
theorem zSi (v0 v1 v2 v3):Lm (fun k=>zIy k v0 v1 v2 v3) (zQp v0 v1 v2 v3):= .of_m2 fun k=>yA7 k v0 v1 v2 v3
theorem yKx (v0 v1 v2 v3):zQp v0 v1 v2 v3=zNz zQp v0 v1 v2 v3:=(zSi v0 v1 v2 v3).shift.uniq (by unfold zNz;exact .cond _ (.bind (.const _) (fun e1=> .cond _ (.bind (.const _) (fun e2=> .cond _ (zSi _ _ _ _) (.const _))) (zSi _ _ _ _))) (.const _))
noncomputable def zYz:yC4:=yDd zQp
theorem xH8 (x0 x1):Lm (fun k=>yKi k x0 x1) (zYz x0 x1):=by
 unfold yKi zYz yDd
 exact .bind (zSi _ _ _ _) (fun o3=> .const _)
noncomputable def zKe:zNw:=zT1 zF5 zYz
theorem zGn (x0 x1):Lm (fun k=>zSq k x0 x1) (zKe x0 x1):=by
 unfold zSq zKe zT1
 exact .bind (zUg _ _) (fun r1=> .cond _ (.const _) (.bind (xH8 _ _) (fun r2=> .const _)))
noncomputable def zUb:zVm:=yDg zF5 zQe
theorem yIv (x0 x1 x2):Lm (fun k=>yEn k x0 x1 x2) (zUb x0 x1 x2):=by
 unfold yEn zUb yDg
 exact .bind (zUg _ _) (fun r1=> .cond _ (.const _) (.bind (.const _) (fun e2=> .cond _ (.const _) (.cond _ (.const _) (.cond _ (.cond _ (.bind (zTh _ _) (fun r3=> .const _)) (.bind (zTh _ _) (fun r4=> .const _))) (.const _))))))
noncomputable def zF3:zEo:=fun v0 v1 v2 v3 v4 v5=>lim fun k=>zBa k v0 v1 v2 v3 v4 v5
theorem zZ9:∀k v0 v1 v2 v3 v4 v5,M2 (zBa k v0 v1 v2 v3 v4 v5) (zBa (k+1) v0 v1 v2 v3 v4 v5)
 |0,_,_,_,_,_,_=> .none
 |k+1,_,_,_,_,_,_=> .cond _ (.cond _ (.bind (.const _) (fun w3=> .bind (.const _) (fun e4=> .bind ((zGn _ _).m k) (fun r5=>zZ9 k _ _ _ _ _ _)))) (.const _)) (.const _)
theorem zP3 (v0 v1 v2 v3 v4 v5):Lm (fun k=>zBa k v0 v1 v2 v3 v4 v5) (zF3 v0 v1 v2 v3 v4 v5):= .of_m2 fun k=>zZ9 k v0 v1 v2 v3 v4 v5
theorem zYy (v0 v1 v2 v3 v4 v5):zF3 v0 v1 v2 v3 v4 v5=zEj zKe zF3 v0 v1 v2 v3 v4 v5:=(zP3 v0 v1 v2 v3 v4 v5).shift.uniq (by unfold zEj;exact .cond _ (.cond _ (.bind (.const _) (fun w3=> .bind (.const _) (fun e4=> .bind (zGn _ _) (fun r5=>zP3 _ _ _ _ _ _)))) (.const _)) (.const _))
noncomputable def zCb:zR3:=zKw vD zBu zF3 zUb
theorem yJs (x0 x1):Lm (fun k=>zWh k x0 x1) (zCb x0 x1):=by
 unfold zWh zCb zKw
 exact .bind (zD6 _) (fun r1=> .bind (yM2 _ _) (fun r2=> .cond _ (.const _) (.bind (zP3 _ _ _ _ _ _) (fun o6=> .cond _ (.cond _ (.bind (.const _) (fun w7=> .bind (.const _) (fun e8=> .cond _ (.bind (.const _) (fun w9=> .bind (.const _) (fun e10=> .bind (yIv _ _ _) (fun r11=> .const _)))) (.const _)))) (.const _)) (.cond _ (.bind (.const _) (fun w12=> .bind (.const _) (fun e13=> .bind (yIv _ _ _) (fun r14=> .const _)))) (.const _))))))
noncomputable def zDu:zCh:=fun v0 v1 v2 v3 v4=>lim fun k=>kX k v0 v1 v2 v3 v4
theorem zMw:∀k v0 v1 v2 v3 v4,M2 (kX k v0 v1 v2 v3 v4) (kX (k+1) v0 v1 v2 v3 v4)
 |0,_,_,_,_,_=> .none
 |k+1,_,_,_,_,_=> .cond _ (.cond _ (.bind (.const _) (fun w3=> .cond _ (.cond _ (.bind (.const _) (fun w4=> .bind ((wC _).m k) (fun r5=> .bind ((kS _ _).m k) (fun r6=> .cond _ (zMw k _ _ _ _ _) (.const _))))) (.const _)) (.cond _ (.bind (.const _) (fun w7=> .bind ((zJ5 _).m k) (fun r8=> .cond _ (.cond _ (.bind (.const _) (fun w9=> .bind ((wC _).m k) (fun r10=> .bind ((kS _ _).m k) (fun r11=> .cond _ (zMw k _ _ _ _ _) (.const _))))) (.const _)) (.const _)))) (.const _)))) (.const _)) (.const _)
theorem zFp (v0 v1 v2 v3 v4):Lm (fun k=>kX k v0 v1 v2 v3 v4) (zDu v0 v1 v2 v3 v4):= .of_m2 fun k=>zMw k v0 v1 v2 v3 v4
theorem zFq (v0 v1 v2 v3 v4):zDu v0 v1 v2 v3 v4=jR zH7 zBb vK zDu v0 v1 v2 v3 v4:=(zFp v0 v1 v2 v3 v4).shift.uniq (by unfold jR;exact .cond _ (.cond _ (.bind (.const _) (fun w3=> .cond _ (.cond _ (.bind (.const _) (fun w4=> .bind (wC _) (fun r5=> .bind (kS _ _) (fun r6=> .cond _ (zFp _ _ _ _ _) (.const _))))) (.const _)) (.cond _ (.bind (.const _) (fun w7=> .bind (zJ5 _) (fun r8=> .cond _ (.cond _ (.bind (.const _) (fun w9=> .bind (wC _) (fun r10=> .bind (kS _ _) (fun r11=> .cond _ (zFp _ _ _ _ _) (.const _))))) (.const _)) (.const _)))) (.const _)))) (.const _)) (.const _))
noncomputable def zAh:zNd:=zHv xW zGw zDu
theorem yDv (x0 x1):Lm (fun k=>zR1 k x0 x1) (zAh x0 x1):=by
 unfold zR1 zAh zHv
 exact .bind (zKb _) (fun r1=> .cond _ (.const _) (.bind (yAh _ _) (fun r2=> .cond _ (.const _) (.bind (zFp _ _ _ _ _) (fun o12=> .const _)))))
noncomputable def zCm:zEi:=fun v0 v1 v2 v3 v4=>lim fun k=>zA9 k v0 v1 v2 v3 v4
theorem zPv:∀k v0 v1 v2 v3 v4,M2 (zA9 k v0 v1 v2 v3 v4) (zA9 (k+1) v0 v1 v2 v3 v4)
 |0,_,_,_,_,_=> .none
 |k+1,_,_,_,_,_=> .cond _ (.cond _ (.bind (.const _) (fun w3=> .cond _ (.cond _ (.bind (.const _) (fun w4=> .cond _ (.bind (.const _) (fun w5=> .bind (.const _) (fun e6=> .cond _ (.const _) (.cond _ (.bind (.const _) (fun w7=> .bind (.const _) (fun e8=> .bind ((zGn _ _).m k) (fun r9=>zPv k _ _ _ _ _)))) (.const _))))) (.const _))) (.const _)) (.cond _ (.bind (.const _) (fun w10=> .bind (.const _) (fun e11=> .bind ((zGn _ _).m k) (fun r12=>zPv k _ _ _ _ _)))) (.const _)))) (.const _)) (.const _)
theorem zH0 (v0 v1 v2 v3 v4):Lm (fun k=>zA9 k v0 v1 v2 v3 v4) (zCm v0 v1 v2 v3 v4):= .of_m2 fun k=>zPv k v0 v1 v2 v3 v4
theorem zQc (v0 v1 v2 v3 v4):zCm v0 v1 v2 v3 v4=zBm zKe zCm v0 v1 v2 v3 v4:=(zH0 v0 v1 v2 v3 v4).shift.uniq (by unfold zBm;exact .cond _ (.cond _ (.bind (.const _) (fun w3=> .cond _ (.cond _ (.bind (.const _) (fun w4=> .cond _ (.bind (.const _) (fun w5=> .bind (.const _) (fun e6=> .cond _ (.const _) (.cond _ (.bind (.const _) (fun w7=> .bind (.const _) (fun e8=> .bind (zGn _ _) (fun r9=>zH0 _ _ _ _ _)))) (.const _))))) (.const _))) (.const _)) (.cond _ (.bind (.const _) (fun w10=> .bind (.const _) (fun e11=> .bind (zGn _ _) (fun r12=>zH0 _ _ _ _ _)))) (.const _)))) (.const _)) (.const _))
noncomputable def zCa:zSn:=zKx vD zBu zCm
theorem yJf (x0 x1):Lm (fun k=>zWa k x0 x1) (zCa x0 x1):=by
 unfold zWa zCa zKx
 exact .bind (zD6 _) (fun r1=> .bind (yM2 _ _) (fun r2=> .cond _ (.const _) (.bind (zH0 _ _ _ _ _) (fun o13=> .const _))))
noncomputable def zEp:zDd:=fun v0 v1 v2 v3 v4 v5=>lim fun k=>zAk k v0 v1 v2 v3 v4 v5
theorem zNu:∀k v0 v1 v2 v3 v4 v5,M2 (zAk k v0 v1 v2 v3 v4 v5) (zAk (k+1) v0 v1 v2 v3 v4 v5)
 |0,_,_,_,_,_,_=> .none
 |k+1,_,_,_,_,_,_=> .cond _ (.cond _ (.bind (.const _) (fun w2=> .bind (.const _) (fun w3=> .cond _ (.bind (.const _) (fun e4=> .cond _ (.bind ((yB _).m k) (fun r5=>zNu k _ _ _ _ _ _)) (.const _))) (.cond _ (.bind ((yB _).m k) (fun r6=>zNu k _ _ _ _ _ _)) (.const _))))) (.const _)) (.const _)
theorem zGp (v0 v1 v2 v3 v4 v5):Lm (fun k=>zAk k v0 v1 v2 v3 v4 v5) (zEp v0 v1 v2 v3 v4 v5):= .of_m2 fun k=>zNu k v0 v1 v2 v3 v4 v5
theorem zXw (v0 v1 v2 v3 v4 v5):zEp v0 v1 v2 v3 v4 v5=zDn yV zEp v0 v1 v2 v3 v4 v5:=(zGp v0 v1 v2 v3 v4 v5).shift.uniq (by unfold zDn;exact .cond _ (.cond _ (.bind (.const _) (fun w2=> .bind (.const _) (fun w3=> .cond _ (.bind (.const _) (fun e4=> .cond _ (.bind (yB _) (fun r5=>zGp _ _ _ _ _ _)) (.const _))) (.cond _ (.bind (yB _) (fun r6=>zGp _ _ _ _ _ _)) (.const _))))) (.const _)) (.const _))
noncomputable def zB5:zHg:=zM9 zFh zEp
theorem zS7 (x0 x1):Lm (fun k=>zKv k x0 x1) (zB5 x0 x1):=by
 unfold zKv zB5 zM9
 exact .bind (yEz _) (fun r1=> .bind (zGp _ _ _ _ _ _) (fun o7=> .const _))
noncomputable def zI9:zHt:=fun v0 v1 v2 v3 v4 v5 v6=>lim fun k=>zDw k v0 v1 v2 v3 v4 v5 v6
theorem yEd:∀k v0 v1 v2 v3 v4 v5 v6,M2 (zDw k v0 v1 v2 v3 v4 v5 v6) (zDw (k+1) v0 v1 v2 v3 v4 v5 v6)
 |0,_,_,_,_,_,_,_=> .none
 |k+1,_,_,_,_,_,_,_=> .bind (.const _) (fun e2=> .cond _ (.cond _ (yEd k _ _ _ _ _ _ _) (.const _)) (.const _))
theorem zKp (v0 v1 v2 v3 v4 v5 v6):Lm (fun k=>zDw k v0 v1 v2 v3 v4 v5 v6) (zI9 v0 v1 v2 v3 v4 v5 v6):= .of_m2 fun k=>yEd k v0 v1 v2 v3 v4 v5 v6
theorem yDp (v0 v1 v2 v3 v4 v5 v6):zI9 v0 v1 v2 v3 v4 v5 v6=zHj zI9 v0 v1 v2 v3 v4 v5 v6:=(zKp v0 v1 v2 v3 v4 v5 v6).shift.uniq (by unfold zHj;exact .bind (.const _) (fun e2=> .cond _ (.cond _ (zKp _ _ _ _ _ _ _) (.const _)) (.const _)))
noncomputable def zLn:zJu:=fun v0 v1 v2 v3=>lim fun k=>zEt k v0 v1 v2 v3
theorem zVe:∀k v0 v1 v2 v3,M2 (zEt k v0 v1 v2 v3) (zEt (k+1) v0 v1 v2 v3)
 |0,_,_,_,_=> .none
 |k+1,_,_,_,_=> .cond _ (.bind (.const _) (fun e1=> .cond _ (.bind ((zKp _ _ _ _ _ _ _).m k) (fun o3=> .cond _ (.cond _ (zVe k _ _ _ _) (.const _)) (.const _))) (.cond _ (.cond _ (zVe k _ _ _ _) (.const _)) (.const _)))) (.const _)
theorem zNm (v0 v1 v2 v3):Lm (fun k=>zEt k v0 v1 v2 v3) (zLn v0 v1 v2 v3):= .of_m2 fun k=>zVe k v0 v1 v2 v3
theorem yGn (v0 v1 v2 v3):zLn v0 v1 v2 v3=zJe zI9 zLn v0 v1 v2 v3:=(zNm v0 v1 v2 v3).shift.uniq (by unfold zJe;exact .cond _ (.bind (.const _) (fun e1=> .cond _ (.bind (zKp _ _ _ _ _ _ _) (fun o3=> .cond _ (.cond _ (zNm _ _ _ _) (.const _)) (.const _))) (.cond _ (.cond _ (zNm _ _ _ _) (.const _)) (.const _)))) (.const _))
noncomputable def zOw:zWl:=zWc zLn
theorem yOi (x0 x1):Lm (fun k=>yDj k x0 x1) (zOw x0 x1):=by
 unfold yDj zOw zWc
 exact .bind (zNm _ _ _ _) (fun o4=> .const _)
noncomputable def zId:zKu:=fun v0 v1 v2=>lim fun k=>zGs k v0 v1 v2
theorem yIt:∀k v0 v1 v2,M2 (zGs k v0 v1 v2) (zGs (k+1) v0 v1 v2)
 |0,_,_,_=> .none
 |k+1,_,_,_=> .cond _ (.cond _ (.bind (.const _) (fun _=>yIt k _ _ _)) (.const _)) (.const _)
theorem zW4 (v0 v1 v2):Lm (fun k=>zGs k v0 v1 v2) (zId v0 v1 v2):= .of_m2 fun k=>yIt k v0 v1 v2
theorem yJy (v0 v1 v2):zId v0 v1 v2=zLr zId v0 v1 v2:=(zW4 v0 v1 v2).shift.uniq (by unfold zLr;exact .cond _ (.cond _ (.bind (.const _) (fun _=>zW4 _ _ _)) (.const _)) (.const _))
noncomputable def zFn:zOn:=zZ0 zId
theorem zD9 (x0):Lm (fun k=>zT3 k x0) (zFn x0):=by
 unfold zT3 zFn zZ0
 exact .cond _ (.bind (zW4 _ _ _) (fun o2=> .const _)) (.const _)
noncomputable def zRk:zTl:=zYl
theorem yRh (x0):Lm (fun k=>yAz k x0) (zRk x0):=by
 unfold yAz zRk zYl
 exact .const _
noncomputable def zGb:zJg:=fun v0 v1 v2 v3 v4=>lim fun k=>zEw k v0 v1 v2 v3 v4
theorem zU9:∀k v0 v1 v2 v3 v4,M2 (zEw k v0 v1 v2 v3 v4) (zEw (k+1) v0 v1 v2 v3 v4)
 |0,_,_,_,_,_=> .none
 |k+1,_,_,_,_,_=> .cond _ (.bind (.const _) (fun e5=> .bind ((zGd _).m k) (fun r6=> .cond _ (.bind (.const _) (fun e7=> .cond _ (zU9 k _ _ _ _ _) (.const _))) (zU9 k _ _ _ _ _)))) (.const _)
theorem zM6 (v0 v1 v2 v3 v4):Lm (fun k=>zEw k v0 v1 v2 v3 v4) (zGb v0 v1 v2 v3 v4):= .of_m2 fun k=>zU9 k v0 v1 v2 v3 v4
theorem yF6 (v0 v1 v2 v3 v4):zGb v0 v1 v2 v3 v4=zJj zEf zGb v0 v1 v2 v3 v4:=(zM6 v0 v1 v2 v3 v4).shift.uniq (by unfold zJj;exact .cond _ (.bind (.const _) (fun e5=> .bind (zGd _) (fun r6=> .cond _ (.bind (.const _) (fun e7=> .cond _ (zM6 _ _ _ _ _) (.const _))) (zM6 _ _ _ _ _)))) (.const _))
noncomputable def zH8:zYx:=zTi vD zEf zGb zFn zRk zUb
theorem yRe (x0):Lm (fun k=>yHc k x0) (zH8 x0):=by
 unfold yHc zH8 zTi
 exact .bind (zD6 _) (fun r1=> .cond _ (.const _) (.cond _ (.bind (.const _) (fun w2=> .bind (.const _) (fun e3=> .bind (zGd _) (fun r4=> .bind (zM6 _ _ _ _ _) (fun o8=> .bind (zD9 _) (fun r9=> .bind (yRh _) (fun r10=> .bind (yIv _ _ _) (fun r11=> .const _)))))))) (.const _)))
noncomputable def yEu:yHm:=yG2
theorem xLv (x0):Lm (fun k=>yP0 k x0) (yEu x0):=by
 unfold yP0 yEu yG2
 exact .const _
noncomputable def zHq:zKy:=zKz zEc yEu
theorem vF (x0 x1 x2):Lm (fun k=>zPo k x0 x1 x2) (zHq x0 x1 x2):=by
 unfold zPo zHq zKz
 exact .bind (yAx _) (fun r1=> .cond _ (.const _) (.bind (xLv _) (fun r2=> .const _)))
noncomputable def yEk:yHu:=yHw
theorem xLq (x0):Lm (fun k=>yPa k x0) (yEk x0):=by
 unfold yPa yEk yHw
 exact .const _
noncomputable def zJt:zHk:=fun v0 v1=>lim fun k=>zDr k v0 v1
theorem yEx:∀k v0 v1,M2 (zDr k v0 v1) (zDr (k+1) v0 v1)
 |0,_,_=> .none
 |k+1,_,_=> .cond _ (.cond _ (yEx k _ _) (.const _)) (.const _)
theorem zSr (v0 v1):Lm (fun k=>zDr k v0 v1) (zJt v0 v1):= .of_m2 fun k=>yEx k v0 v1
theorem yUm (v0 v1):zJt v0 v1=zNq zJt v0 v1:=(zSr v0 v1).shift.uniq (by unfold zNq;exact .cond _ (.cond _ (zSr _ _) (.const _)) (.const _))
noncomputable def zGv:zNx:=zT5 yEk zJt
theorem zDx (x0 x1):Lm (fun k=>zSy k x0 x1) (zGv x0 x1):=by
 unfold zSy zGv zT5
 exact .bind (xLq _) (fun r1=> .bind (zSr _ _) (fun o2=> .const _))
noncomputable def zTz:yDf:=yCw zXl zGv
theorem zN2 (x0 x1):Lm (fun k=>yL7 k x0 x1) (zTz x0 x1):=by
 unfold yL7 zTz yCw
 exact .cond _ (.const _) (.cond _ (.bind (yW2 _) (fun r1=> .bind (zDx _ _) (fun r2=> .const _))) (.const _))
noncomputable def xA:zJm:=vR zBv xW zH7 zHq zGv zTz jA yV zC7
theorem zNn (x0 x1):Lm (fun k=>zOy k x0 x1) (xA x0 x1):=by
 unfold zOy xA vR
 exact .bind (zMb _) (fun r1=> .bind (zKb _) (fun r2=> .cond _ (.const _) (.cond _ (.const _) (.cond _ (.const _) (.cond _ (.cond _ (.const _) (.cond _ (.cond _ (.bind (wC _) (fun r3=> .bind (vF _ _ _) (fun r4=> .cond _ (.const _) (.cond _ (.bind (zDx _ _) (fun r5=> .cond _ (.bind (zN2 _ _) (fun r6=> .bind (wC _) (fun r7=> .bind (vF _ _ _) (fun r8=> .cond _ (.const _) (.bind (xS _) (fun r9=> .cond _ (.bind (yB _) (fun r10=> .const _)) (.const _))))))) (.const _))) (.const _))))) (.bind (.const _) (fun w11=> .bind (xS _) (fun r12=> .cond _ (.bind (wC _) (fun r13=> .bind (zNa _ _) (fun r14=> .cond _ (.const _) (.bind (wC _) (fun r15=> .bind (vF _ _ _) (fun r16=> .cond _ (.const _) (.cond _ (.bind (zDx _ _) (fun r17=> .cond _ (.bind (zN2 _ _) (fun r18=> .bind (wC _) (fun r19=> .bind (vF _ _ _) (fun r20=> .cond _ (.const _) (.bind (xS _) (fun r21=> .cond _ (.bind (yB _) (fun r22=> .const _)) (.const _))))))) (.const _))) (.const _)))))))) (.bind (zDx _ _) (fun r23=> .cond _ (.bind (zN2 _ _) (fun r24=> .bind (wC _) (fun r25=> .bind (vF _ _ _) (fun r26=> .cond _ (.const _) (.cond _ (.bind (xS _) (fun r27=> .cond _ (.bind (yB _) (fun r28=> .const _)) (.const _))) (.bind (xS _) (fun r29=> .cond _ (.bind (yB _) (fun r30=> .const _)) (.const _)))))))) (.const _))))))) (.const _))) (.cond _ (.cond _ (.bind (wC _) (fun r31=> .bind (vF _ _ _) (fun r32=> .cond _ (.const _) (.cond _ (.bind (zDx _ _) (fun r33=> .cond _ (.bind (zN2 _ _) (fun r34=> .bind (wC _) (fun r35=> .bind (vF _ _ _) (fun r36=> .cond _ (.const _) (.bind (xS _) (fun r37=> .cond _ (.bind (yB _) (fun r38=> .const _)) (.const _))))))) (.const _))) (.const _))))) (.bind (.const _) (fun w39=> .bind (xS _) (fun r40=> .cond _ (.bind (wC _) (fun r41=> .bind (zNa _ _) (fun r42=> .cond _ (.const _) (.bind (wC _) (fun r43=> .bind (vF _ _ _) (fun r44=> .cond _ (.const _) (.cond _ (.bind (zDx _ _) (fun r45=> .cond _ (.bind (zN2 _ _) (fun r46=> .bind (wC _) (fun r47=> .bind (vF _ _ _) (fun r48=> .cond _ (.const _) (.bind (xS _) (fun r49=> .cond _ (.bind (yB _) (fun r50=> .const _)) (.const _))))))) (.const _))) (.const _)))))))) (.bind (zDx _ _) (fun r51=> .cond _ (.bind (zN2 _ _) (fun r52=> .bind (wC _) (fun r53=> .bind (vF _ _ _) (fun r54=> .cond _ (.const _) (.cond _ (.bind (xS _) (fun r55=> .cond _ (.bind (yB _) (fun r56=> .const _)) (.const _))) (.bind (xS _) (fun r57=> .cond _ (.bind (yB _) (fun r58=> .const _)) (.const _)))))))) (.const _))))))) (.const _)))))))
noncomputable def zLm:zJd:=fun v0 v1=>lim fun k=>zFg k v0 v1
theorem wZ:∀k v0 v1,M2 (zFg k v0 v1) (zFg (k+1) v0 v1)
 |0,_,_=> .none
 |k+1,_,_=> .cond _ (.bind (.const _) (fun c1=> .cond _ (.cond _ (wZ k _ _) (.cond _ (.cond _ (wZ k _ _) (.cond _ (wZ k _ _) (.cond _ (.const _) (wZ k _ _)))) (.cond _ (wZ k _ _) (.cond _ (.const _) (wZ k _ _))))) (.cond _ (.cond _ (wZ k _ _) (.cond _ (wZ k _ _) (.cond _ (.const _) (wZ k _ _)))) (.cond _ (wZ k _ _) (.cond _ (.const _) (wZ k _ _)))))) (.const _)
theorem wN (v0 v1):Lm (fun k=>zFg k v0 v1) (zLm v0 v1):= .of_m2 fun k=>wZ k v0 v1
theorem yF4 (v0 v1):zLm v0 v1=zJf zLm v0 v1:=(wN v0 v1).shift.uniq (by unfold zJf;exact .cond _ (.bind (.const _) (fun c1=> .cond _ (.cond _ (wN _ _) (.cond _ (.cond _ (wN _ _) (.cond _ (wN _ _) (.cond _ (.const _) (wN _ _)))) (.cond _ (wN _ _) (.cond _ (.const _) (wN _ _))))) (.cond _ (.cond _ (wN _ _) (.cond _ (wN _ _) (.cond _ (.const _) (wN _ _)))) (.cond _ (wN _ _) (.cond _ (.const _) (wN _ _)))))) (.const _))
noncomputable def zVy:zZa:=zZf zLm
theorem xG7 (x0):Lm (fun k=>yHt k x0) (zVy x0):=by
 unfold yHt zVy zZf
 exact .cond _ (.const _) (.cond _ (.const _) (.bind (wN _ _) (fun o2=> .const _)))
noncomputable def zD7:zL2:=zLa
theorem ySc (v0 v1 v2 v3):Lm (fun k=>zPb k v0 v1 v2 v3) (zD7 v0 v1 v2 v3):=by
 unfold zPb zD7 zLa
 exact .const _
noncomputable def zEg:zOk:=zUd zVy zF5 zD7 zQe
theorem zKn (x0 x1 x2):Lm (fun k=>zTt k x0 x1 x2) (zEg x0 x1 x2):=by
 unfold zTt zEg zUd
 exact .bind (xG7 _) (fun r1=> .cond _ (.const _) (.bind (zUg _ _) (fun r2=> .bind (ySc _ _ _ _) (fun o4=> .cond _ (.cond _ (.const _) (.cond _ (.const _) (.cond _ (.cond _ (.bind (zTh _ _) (fun r5=> .const _)) (.const _)) (.const _)))) (.cond _ (.const _) (.cond _ (.cond _ (.bind (zTh _ _) (fun r6=> .const _)) (.const _)) (.const _)))))))
noncomputable def zJr:zWi:=zWu zRi jP
theorem xDa (x0 x1):Lm (fun k=>yCx k x0 x1) (zJr x0 x1):=by
 unfold yCx zJr zWu
 exact .cond _ (.bind (yE7 _) (fun r1=> .bind (zI3 _) (fun r2=> .const _))) (.const _)
noncomputable def vZ:zL3:=zCc zFn zRh zEg zRk
theorem ySf (v0 v1 v2 v3):Lm (fun k=>zO6 k v0 v1 v2 v3) (vZ v0 v1 v2 v3):=by
 unfold zO6 vZ zCc
 exact .cond _ (.cond _ (.bind (zD9 _) (fun r9=> .bind (yE6 _ _) (fun r10=> .cond _ (.const _) (.bind (zD9 _) (fun r11=> .bind (zKn _ _ _) (fun r12=> .const _)))))) (.cond _ (.const _) (.bind (zD9 _) (fun r13=> .bind (zKn _ _ _) (fun r14=> .const _))))) (.cond _ (.bind (.const _) (fun w15=> .bind (yRh _) (fun r16=> .cond _ (.cond _ (.bind (zD9 _) (fun r17=> .bind (yE6 _ _) (fun r18=> .cond _ (.const _) (.bind (zD9 _) (fun r19=> .bind (zKn _ _ _) (fun r20=> .const _)))))) (.cond _ (.const _) (.bind (zD9 _) (fun r21=> .bind (zKn _ _ _) (fun r22=> .const _))))) (.const _)))) (.const _))
noncomputable def zA8:zLo:=zMc zEf
theorem yR8 (v0 v1 v2 v3):Lm (fun k=>zP1 k v0 v1 v2 v3) (zA8 v0 v1 v2 v3):=by
 unfold zP1 zA8 zMc
 exact .cond _ (.cond _ (.bind (.const _) (fun w5=> .bind (.const _) (fun e6=> .bind (zGd _) (fun r7=> .const _)))) (.const _)) (.const _)
noncomputable def zHc:zLp:=zL9
theorem ySu (v0 v1 v2):Lm (fun k=>zO9 k v0 v1 v2) (zHc v0 v1 v2):=by
 unfold zO9 zHc zL9
 exact .const _
noncomputable def wH:zUs:=zFd zRj zHc vD zA8 vZ jP zJr zFn zEg
theorem yKk (x0 x1):Lm (fun k=>zZe k x0 x1) (wH x0 x1):=by
 unfold zZe wH zFd
 exact .bind (yRr _) (fun r1=> .cond _ (.const _) (.cond _ (.const _) (.bind (ySu _ _ _) (fun o3=> .cond _ (.const _) (.bind (zD6 _) (fun r4=> .bind (yR8 _ _ _ _) (fun o8=> .bind (ySf _ _ _ _) (fun o23=> .elim _ (fun a24=> .bind (zI3 _) (fun r26=> .cond _ (.bind (xDa _ _) (fun r27=> .bind (zD9 _) (fun r28=> .bind (zKn _ _ _) (fun r29=> .const _)))) (.const _))) (fun b25=> .const _)))))))))
noncomputable def zZ8:zWk:=yFb yEw zIb xA zEd zB5 kJ zIo zBv
theorem yNd:Lm (fun k=>yDc k) (zZ8):=by
 unfold yDc zZ8 yFb
 exact .bind yW9 (fun r1=> .bind (zVl _) (fun r2=> .oelim _ (.const _) (fun w3=> .cond _ (.const _) (.cond _ (.bind (zNn _ _) (fun r4=> .cond _ (.const _) (.bind (yAf _) (fun r5=> .bind (zNn _ _) (fun r6=> .bind (zS7 _ _) (fun r7=> .bind (zVl _) (fun r8=> .oelim _ (.const _) (fun w9=> .cond _ (.const _) (.bind (zEu _ _) (fun r10=> .cond _ (.cond _ (.bind (zWw _) (fun r11=> .cond _ (.bind (zMb _) (fun r12=> .const _)) (.const _))) (.const _)) (.const _))))))))))) (.const _)))))
noncomputable def zF2:zJ2:=zJ6 zBv
theorem yAt (v0 v1 v2 v3 v4 v5 v6 v7):Lm (fun k=>zNe k v0 v1 v2 v3 v4 v5 v6 v7) (zF2 v0 v1 v2 v3 v4 v5 v6 v7):=by
 unfold zNe zF2 zJ6
 exact .cond _ (.bind (zMb _) (fun r6=> .const _)) (.const _)
noncomputable def zAf:zEs:=fun v0 v1 v2 v3 v4 v5 v6=>lim fun k=>zBc k v0 v1 v2 v3 v4 v5 v6
theorem zAz:∀k v0 v1 v2 v3 v4 v5 v6,M2 (zBc k v0 v1 v2 v3 v4 v5 v6) (zBc (k+1) v0 v1 v2 v3 v4 v5 v6)
 |0,_,_,_,_,_,_,_=> .none
 |k+1,_,_,_,_,_,_,_=> .cond _ (.bind (.const _) (fun e5=> .bind ((yAt _ _ _ _ _ _ _ _).m k) (fun o7=> .cond _ (.bind ((yAf _).m k) (fun r8=> .bind ((yRi _).m k) (fun r9=> .bind ((zC3 _ _ _).m k) (fun r10=> .cond _ (.const _) (zAz k _ _ _ _ _ _ _))))) (.cond _ (.bind ((yEf _ _).m k) (fun r11=> .bind ((yJs _ _).m k) (fun r12=> .cond _ (.const _) (.bind ((zC3 _ _ _).m k) (fun r13=> .cond _ (.const _) (zAz k _ _ _ _ _ _ _)))))) (.cond _ (.bind ((yDv _ _).m k) (fun r14=> .bind ((yJf _ _).m k) (fun r15=> .cond _ (.const _) (.bind ((zC3 _ _ _).m k) (fun r16=> .cond _ (.const _) (zAz k _ _ _ _ _ _ _)))))) (.cond _ (.bind ((zS7 _ _).m k) (fun r17=> .bind ((yOi _ _).m k) (fun r18=> .bind ((yRe _).m k) (fun r19=> .bind ((zVl _).m k) (fun r20=> .oelim _ (.const _) (fun w21=> .cond _ (.const _) (.bind ((zC3 _ _ _).m k) (fun r22=> .cond _ (.const _) (zAz k _ _ _ _ _ _ _))))))))) (.bind ((zNn _ _).m k) (fun r23=> .bind ((yKk _ _).m k) (fun r24=> .cond _ (.const _) (.bind ((zC3 _ _ _).m k) (fun r25=> .cond _ (.const _) (zAz k _ _ _ _ _ _ _)))))))))))) (.const _)
theorem kD (v0 v1 v2 v3 v4 v5 v6):Lm (fun k=>zBc k v0 v1 v2 v3 v4 v5 v6) (zAf v0 v1 v2 v3 v4 v5 v6):= .of_m2 fun k=>zAz k v0 v1 v2 v3 v4 v5 v6
theorem yAw (v0 v1 v2 v3 v4 v5 v6):zAf v0 v1 v2 v3 v4 v5 v6=zEk zF2 zEd zIa yD5 zAi zCb zAh zCa zB5 zOw zH8 zIb xA wH zAf v0 v1 v2 v3 v4 v5 v6:=(kD v0 v1 v2 v3 v4 v5 v6).shift.uniq (by unfold zEk;exact .cond _ (.bind (.const _) (fun e5=> .bind (yAt _ _ _ _ _ _ _ _) (fun o7=> .cond _ (.bind (yAf _) (fun r8=> .bind (yRi _) (fun r9=> .bind (zC3 _ _ _) (fun r10=> .cond _ (.const _) (kD _ _ _ _ _ _ _))))) (.cond _ (.bind (yEf _ _) (fun r11=> .bind (yJs _ _) (fun r12=> .cond _ (.const _) (.bind (zC3 _ _ _) (fun r13=> .cond _ (.const _) (kD _ _ _ _ _ _ _)))))) (.cond _ (.bind (yDv _ _) (fun r14=> .bind (yJf _ _) (fun r15=> .cond _ (.const _) (.bind (zC3 _ _ _) (fun r16=> .cond _ (.const _) (kD _ _ _ _ _ _ _)))))) (.cond _ (.bind (zS7 _ _) (fun r17=> .bind (yOi _ _) (fun r18=> .bind (yRe _) (fun r19=> .bind (zVl _) (fun r20=> .oelim _ (.const _) (fun w21=> .cond _ (.const _) (.bind (zC3 _ _ _) (fun r22=> .cond _ (.const _) (kD _ _ _ _ _ _ _))))))))) (.bind (zNn _ _) (fun r23=> .bind (yKk _ _) (fun r24=> .cond _ (.const _) (.bind (zC3 _ _ _) (fun r25=> .cond _ (.const _) (kD _ _ _ _ _ _ _)))))))))))) (.const _))
noncomputable def yCj:zZu:=zRz yEw zIb zTe zAf zZ8
theorem yZb (x0):Lm (fun k=>zWb k x0) (yCj x0):=by
 unfold zWb yCj zRz
 exact .bind yW9 (fun r1=> .bind (zVl _) (fun r2=> .oelim _ (.const _) (fun w3=> .cond _ (.const _) (.bind (xEb _) (fun r4=> .bind (kD _ _ _ _ _ _ _) (fun o26=> .elim _ (fun _=> .bind yNd (fun r29=> .const _)) (fun b28=> .const _)))))))
end Go.Proofs.YtlhifcknhgmidaaGreatDoor.gg
