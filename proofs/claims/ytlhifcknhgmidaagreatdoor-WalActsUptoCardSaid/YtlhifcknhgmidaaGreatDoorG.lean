/- A part of our own proof. -/
import Derived.Test.YtlhifcknhgmidaaGreatDoorK6
import Derived.Test.YtlhifcknhgmidaaGreatDoorK5
import Derived.Test.YtlhifcknhgmidaaGreatDoorLaidI
import Derived.Test.YtlhifcknhgmidaaGreatDoorAtoiI
import Derived.Test.YtlhifcknhgmidaaGreatDoorItoaI
import Derived.Test.YtlhifcknhgmidaaGreatDoorTrimI
import Derived.Test.YtlhifcknhgmidaaGreatDoorKeysI
open Go Go.GG Go.Proofs
set_option linter.unusedVariables false
namespace Go.Proofs.YtlhifcknhgmidaaGreatDoor.gg
def zCl:List Int:= [0,498536548,997073096,651767980,1994146192,1802195444,1303535960,1342533948,3988292384,4027552580,3604390888,3412177804,2607071920,2262029012,2685067896,3183342108]
instance tabs:yG:=⟨yU4 [(3, .u32,zCl),(6, .u64,Lib.pow10Tab)]⟩
def tab:Tab:= [(3,⟨.int .i64,1,8, [.int .i64 0],some (.int .i64),false⟩),
 (4,⟨.bool,1,1, [.bool false],some .bool,false⟩),
 (5,⟨.int .u8,1,1, [.int .u8 0],some (.int .u8),false⟩),
 (9,⟨.str,1,16, [.string ⟨#[]⟩],some .str,false⟩),
 (22,⟨.slice 35,1,24, [.slice none 0 0],some (.slice (.pair (.int .i64) (.pair (.int .u64) (.pair .bool (.pair (.slice (.int .u8)) (.slice (.int .i64))))))),false⟩),
 (23,⟨.ptr 55,1,8, [.pointer none],none,false⟩),
 (25,⟨.ptr 59,1,8, [.pointer none],none,false⟩),
 (26,⟨.int .i64,1,8, [.int .i64 0],some (.int .i64),false⟩),
 (29,⟨.slice 38,1,24, [.slice none 0 0],some (.slice (.pair (.int .u64) (.slice (.int .u8)))),false⟩),
 (31,⟨.int .u64,1,8, [.int .u64 0],some (.int .u64),false⟩),
 (32,⟨.slice 5,1,24, [.slice none 0 0],some (.slice (.int .u8)),false⟩),
 (33,⟨.slice 3,1,24, [.slice none 0 0],some (.slice (.int .i64)),false⟩),
 (35,⟨.struct [(3,0),(31,1),(4,2),(32,3),(33,4)],5,72, [.int .i64 0, .int .u64 0, .bool false, .slice none 0 0, .slice none 0 0],some (.pair (.int .i64) (.pair (.int .u64) (.pair .bool (.pair (.slice (.int .u8)) (.slice (.int .i64)))))),false⟩),
 (38,⟨.struct [(31,0),(32,1)],2,32, [.int .u64 0, .slice none 0 0],some (.pair (.int .u64) (.slice (.int .u8))),false⟩),
 (46,⟨.slice 73,1,24, [.slice none 0 0],some (.slice (.pair .str (.pair (.slice (.int .u8)) (.int .i64)))),false⟩),
 (53,⟨.map 9 83,1,8, [.map none],none,false⟩),
 (55,⟨.struct [(53,0)],1,8, [.map none],none,false⟩),
 (57,⟨.slice 68,1,24, [.slice none 0 0],some (.slice (.opt sgT)),false⟩),
 (59,⟨.struct [(23,0),(57,1)],2,32, [.pointer none, .slice none 0 0],none,false⟩),
 (65,⟨.slice 32,1,24, [.slice none 0 0],some (.slice (.slice (.int .u8))),false⟩),
 (67,⟨.struct [(3,0),(31,1),(33,2),(65,3)],4,64, [.int .i64 0, .int .u64 0, .slice none 0 0, .slice none 0 0],some sgT,false⟩),
 (68,⟨.ptr 67,1,8, [.pointer none],some (.opt sgT),false⟩),
 (73,⟨.struct [(9,0),(32,1),(3,2)],3,48, [.string ⟨#[]⟩, .slice none 0 0, .int .i64 0],some (.pair .str (.pair (.slice (.int .u8)) (.int .i64))),false⟩),
 (81,⟨.slice 9,1,24, [.slice none 0 0],some (.slice .str),false⟩),
 (83,⟨.ptr 85,1,8, [.pointer none],none,false⟩),
 (85,⟨.struct [(32,0),(3,1)],2,32, [.slice none 0 0, .int .i64 0],some (.pair (.slice (.int .u8)) (.int .i64)),false⟩),
 (92,⟨.slice 96,1,24, [.slice none 0 0],some (.slice (.pair (.int .i64) (.pair (.slice (.pair (.int .u64) (.slice (.int .u8)))) (.slice (.int .i64))))),false⟩),
 (96,⟨.struct [(3,0),(29,1),(33,2)],3,56, [.int .i64 0, .slice none 0 0, .slice none 0 0],some (.pair (.int .i64) (.pair (.slice (.pair (.int .u64) (.slice (.int .u8)))) (.slice (.int .i64)))),false⟩),
 (117,⟨.iface,1,16, [.nilIface],none,false⟩),
 (132,⟨.int .u64,1,8, [.int .u64 0],some (.int .u64),false⟩),
 (141,⟨.ptr 177,1,8, [.pointer none],none,false⟩),
 (161,⟨.int .u32,1,4, [.int .u32 0],some (.int .u32),false⟩),
 (164,⟨.struct [(5,0),(32,1)],2,32, [.int .u8 0, .slice none 0 0],some (.pair (.int .u8) (.slice (.int .u8))),false⟩),
 (169,⟨.struct [(32,0),(3,1),(26,2)],3,40, [.slice none 0 0, .int .i64 0, .int .i64 0],some (.pair (.slice (.int .u8)) (.pair (.int .i64) (.int .i64))),false⟩),
 (177,⟨.struct [(32,0),(3,1),(26,2)],3,40, [.slice none 0 0, .int .i64 0, .int .i64 0],some (.pair (.slice (.int .u8)) (.pair (.int .i64) (.int .i64))),false⟩),
 (229,⟨.array 16 161,16,64, [.int .u32 0, .int .u32 0, .int .u32 0, .int .u32 0, .int .u32 0, .int .u32 0, .int .u32 0, .int .u32 0, .int .u32 0, .int .u32 0, .int .u32 0, .int .u32 0, .int .u32 0, .int .u32 0, .int .u32 0, .int .u32 0],some (.pair (.int .u32) (.pair (.int .u32) (.pair (.int .u32) (.pair (.int .u32) (.pair (.int .u32) (.pair (.int .u32) (.pair (.int .u32) (.pair (.int .u32) (.pair (.int .u32) (.pair (.int .u32) (.pair (.int .u32) (.pair (.int .u32) (.pair (.int .u32) (.pair (.int .u32) (.pair (.int .u32) (.int .u32)))))))))))))))),false⟩)]
abbrev yAd:=Option FL
def yG8:yAd:=some ([]:FL)
def yJa (k:Nat):yAd:=yG8
def zWt:zE:=⟨[], [.freshd],fun k x=>yJa k⟩
def yMw:zV:=fun _=>none
def yTo:List (Nat×zE):= []
abbrev zIf:=FL→Option (Bool×FL)
def zIe:zIf:=fun x0=>some (true,x0)
def zNy (k:Nat):zIf:=zIe
def zHd:zE:=⟨[.disk], [.imm .bool, .backd],fun k x=>zNy k x⟩
def yEe:zV:=fun _=>none
def yJ7:List (Nat×zE):= []
abbrev zE8:=FL→(List UInt8)→Option ((FL×Option (List UInt8))×Int)
def zPm (h0:zIf):zE8:=fun x0 x1=>((h0 x0).bind fun r1=>(bif (!r1.1) then some ((r1.2,none),1) else ((xG (kt:= .str) x1 r1.2).elim (some ((r1.2,none),4)) fun w2=>some (((wJ (kt:= .str) x1 (w2.1,w2.2) r1.2),some x1),0))))
def zIl (k:Nat):zE8:=zPm (zNy k)
def zEn:zE:=⟨[.disk, .imm .str], [.find, .imm (.int .i64)],fun k x=>zIl k x.1 x.2⟩
def yAq:zV:=fun _=>none
def yEm:List (Nat×zE):= [(72,zHd)]
abbrev zFe:=FL→(List UInt8)→Option (Int×FL)
def zP5 (h0:zE8):zFe:=fun x0 x1=>((h0 x0 x1).bind fun r1=>((r1.1.2).elim ((bif (r1.2==0) then none else some (r1.2,r1.1.1))) fun k2=>((xG (kt:= .str) k2 r1.1.1).bind fun w3=>(bif (r1.2==0) then some (r1.2,(wJ (kt:= .str) k2 (w3.1,((w3.1).length:Int)) r1.1.1)) else some (r1.2,(wJ (kt:= .str) k2 (w3.1,w3.2) r1.1.1))))))
def zIi (k:Nat):zFe:=zP5 (zIl k)
def zEr:zE:=⟨[.disk, .imm .str], [.imm (.int .i64), .backd],fun k x=>zIi k x.1 x.2⟩
def zYj:zV:=fun _=>none
def yD4:List (Nat×zE):= [(62,zEn)]
def kG:zE:=xH1 113
def zSf:zE:=xMc 113
abbrev zHe:=FL→Option ((List (List UInt8))×FL)
def zNb (h0:zIf):zHe:=fun x0=>((h0 x0).bind fun r1=>(bif (!r1.1) then some ([],r1.2) else ((xDu r1.2).bind fun z2=>some (z2,r1.2))))
def zK1 (k:Nat):zHe:=zNb (zNy k)
def zH4:zE:=⟨[.disk], [.own .str, .backd],fun k x=>zK1 k x⟩
def zX8:zV:=fun _=>none
def yBm:List (Nat×zE):= [(72,zHd),(74,kG),(73,zSf)]
abbrev zOv:=Unit→Option (List Int)
def yCg:zOv:=fun x0=>some []
def yE5 (k:Nat):zOv:=yCg
def zJ9:zE:=⟨[.nils], [.own (.int .u8)],fun k x=>yE5 k x⟩
def zIx:zV:=fun _=>none
def zK9:List (Nat×zE):= []
abbrev xV:=(List Int)→Option (List Int)
def jQ:xV:=fun x0=>(bif yK (([]++x0)).length 1 then some ([]++x0) else none)
def xU (k:Nat):xV:=jQ
def wK:zE:=⟨[.imm (.slice (.int .u8))], [.own (.int .u8)],fun k x=>xU k x⟩
def zOg:zE:=⟨[.nnil (.int .u8)], [.own (.int .u8)],fun k x=>xU k x⟩
def zOa:zV:=fun _=>none
def zQ5:List (Nat×zE):= []
abbrev zC6:=Int→Int→Unit→(List (List UInt8))→FL→(List ((List UInt8)×(List Int)×Int))→Option ((Unit×FL×List ((List UInt8)×(List Int)×Int)))
def zDh (h0:xV) (q:zC6):zC6:=fun v0 v1 v2 v3 v4 v5=>(bif (decide (v1<v0)) then (bif (decide (0≤v1)&&decide (v1<(v3).length)) then ((v3[Int.toNat v1]?).bind fun w2=>((xG (kt:= .str) w2 v4).bind fun w3=>((h0 w3.1).bind fun r4=>(bif yK ((v5++ [(w2,(r4,w3.2))])).length 48 then q v0 (IntKind.wrap .i64 (v1+1)) () v3 (wJ (kt:= .str) w2 (w3.1,w3.2) v4) (v5++ [(w2,(r4,w3.2))]) else none)))) else none) else some ((),v4,v5))
def zAn:Nat→zC6
 |0=>fun _ _ _ _ _ _=>none
 |k+1=>zDh (xU k) (zAn k)
def yTn:wV:=⟨⟨[(0, .ptr 2000000 0),(3, .sref 500001),(8, .sref 500000)], [.val 9 (.int .i64), .val 10 (.int .i64), .cells 2000000 [.stat (.mref 1000000)], .arr 500000 .str, .pm 1000000, .arr 500001 (.pair .str (.pair (.slice (.int .u8)) (.int .i64)))]⟩, [(.exit 0,⟨[(0, .ptr 2000000 0),(3, .sref 500001)], [.cells 2000000 [.stat (.mref 1000000)], .pm 1000000, .arr 500001 (.pair .str (.pair (.slice (.int .u8)) (.int .i64)))]⟩)],fun k x=>zAn k x.1 x.2.1 x.2.2.1 x.2.2.2.1 x.2.2.2.2.1 x.2.2.2.2.2⟩
abbrev zHr:=FL→Option ((List ((List UInt8)×(List Int)×Int))×FL)
def zNg (h0:zHe) (h1:zC6):zHr:=fun x0=>((h0 x0).bind fun r1=>((h1 ((r1.1).length:Int) 0 () r1.1 r1.2 []).bind fun o5=>some (o5.2.2,o5.2.1)))
def zKj (k:Nat):zHr:=zNg (zK1 k) (zAn k)
def zH5:zE:=⟨[.disk], [.own (.pair .str (.pair (.slice (.int .u8)) (.int .i64))), .backd],fun k x=>zKj k x⟩
def zXu:zV:=fun n=>cond (Nat.beq n 8) (some yTn) (none)
def yBa:List (Nat×zE):= [(38,zH4),(39,wK)]
abbrev kC:=(List UInt8)→(List UInt8)→Option Bool
def kE:kC:=fun x0 x1=>(bif (decide (((x0).length:Int)≥((x1).length:Int))) then (bif (true&&decide ((0:Int)≤((x1).length:Int))&&decide (((x1).length:Int)≤((x0).length:Int))) then some ((cut x0 0 ((x1).length:Int))==x1) else none) else some false)
def zAa (k:Nat):kC:=kE
def zAv:zE:=⟨[.imm .str, .imm .str], [.imm .bool],fun k x=>zAa k x.1 x.2⟩
def zFu:zV:=fun _=>none
def zHl:List (Nat×zE):= []
abbrev kB:=(List UInt8)→(List UInt8)→Option ((List UInt8)×Bool)
def kA (h0:kC):kB:=fun x0 x1=>((h0 x0 x1).bind fun r1=>(bif (!r1) then some (x0,false) else (bif (decide ((0:Int)≤((x1).length:Int))&&decide (((x1).length:Int)≤((x0).length:Int))&&decide (((x0).length:Int)≤((x0).length:Int))) then some ((cut x0 ((x1).length:Int) ((x0).length:Int)),true) else none)))
def zAb (k:Nat):kB:=kA (zAa k)
def zAy:zE:=⟨[.imm .str, .imm .str], [.imm .str, .imm .bool],fun k x=>zAb k x.1 x.2⟩
def zFt:zV:=fun _=>none
def zG8:List (Nat×zE):= [(126,zAv)]
abbrev zJz:=(List UInt8)→(List UInt8)→Option ((List UInt8)×Bool)
def zJ3 (h0:kB):zJz:=fun x0 x1=>((h0 x0 x1).bind fun r1=>some r1)
def zNf (k:Nat):zJz:=zJ3 (zAb k)
def zMy:zE:=⟨[.imm .str, .imm .str], [.imm .str, .imm .bool],fun k x=>zNf k x.1 x.2⟩
def zUw:zV:=fun _=>none
def zXm:List (Nat×zE):= [(94,zAy)]
def yGk:zE:=yYd
def zU2:zE:=yY1
abbrev zZr:=(List UInt8)→Option (Int×Bool)
def yA1 (h0:zJz):zZr:=fun x0=>((h0 x0 [119,97,108,45]).bind fun r1=>((yVs r1.1).bind fun r2=>(bif r1.2 then (bif (((r1.1).length:Int)==8) then ((yGu r1.1 [48,49,50,51,52,53,54,55,56,57]).bind fun r3=>(bif (r3== []) then some (r2.1,(decide (r2.1>0))) else some (r2.1,false))) else some (r2.1,false)) else some (r2.1,false))))
def yAi (k:Nat):zZr:=yA1 (zNf k)
def zSl:zE:=⟨[.imm .str], [.imm (.int .i64), .imm .bool],fun k x=>yAi k x⟩
def yJ9:zV:=fun _=>none
def yM4:List (Nat×zE):= [(65,zMy),(66,yGk),(67,zU2)]
abbrev zK0:=(List Int)→Int→Int→(List Int)→Int→Int→Option (((List Int)×Int×Int)⊕(Int×Int×Int))
def zGg (q:zK0):zK0:=fun v0 v1 v2 v3 v4 v5=>(bif (decide (v5<v4)) then ((at? v3 v5).bind fun e1=>(bif (v5==3) then some (.inr (0,0,5)) else (bif (decide (v5>0)) then (bif (e1==0) then some (.inr (0,0,5)) else (bif decide (0≤(IntKind.wrap .i64 (7*v5))) then (bif (decide (e1<128)) then some (.inl (v0,(xH .or .i64 v1 (zEh .i64 (IntKind.wrap .i64 (xH .and .u8 e1 127)) (IntKind.wrap .i64 (7*v5)))),(IntKind.wrap .i64 (v5+1)))) else q v0 (xH .or .i64 v1 (zEh .i64 (IntKind.wrap .i64 (xH .and .u8 e1 127)) (IntKind.wrap .i64 (7*v5)))) v2 v3 v4 (IntKind.wrap .i64 (v5+1))) else none)) else (bif decide (0≤(IntKind.wrap .i64 (7*v5))) then (bif (decide (e1<128)) then some (.inl (v0,(xH .or .i64 v1 (zEh .i64 (IntKind.wrap .i64 (xH .and .u8 e1 127)) (IntKind.wrap .i64 (7*v5)))),(IntKind.wrap .i64 (v5+1)))) else q v0 (xH .or .i64 v1 (zEh .i64 (IntKind.wrap .i64 (xH .and .u8 e1 127)) (IntKind.wrap .i64 (7*v5)))) v2 v3 v4 (IntKind.wrap .i64 (v5+1))) else none)))) else some (.inl (v0,v1,v2)))
def zGy:Nat→zK0
 |0=>fun _ _ _ _ _ _=>none
 |k+1=>zGg (zGy k)
def xGz:wV:=⟨⟨[], [.val 0 (.slice (.int .u8)), .val 2 (.int .i64), .val 3 (.int .i64), .val 7 (.slice (.int .u8)), .val 8 (.int .i64), .val 9 (.int .i64)]⟩, [(.exit 0,⟨[], [.val 0 (.slice (.int .u8)), .val 2 (.int .i64), .val 3 (.int .i64)]⟩),(.ret,⟨[], [.val 2 (.int .i64), .val 3 (.int .i64), .val 4 (.int .i64)]⟩)],fun k x=>zGy k x.1 x.2.1 x.2.2.1 x.2.2.2.1 x.2.2.2.2.1 x.2.2.2.2.2⟩
abbrev zZb:=(List Int)→Option (Int×Int×Int)
def zYv (h0:zK0):zZb:=fun x0=>((h0 x0 0 0 x0 ((x0).length:Int) 0).bind fun o2=>Sum.elim (fun a3=>(bif (a3.2.2==0) then (bif (decide (((a3.1).length:Int)<3)) then some (0,0,12) else (bif (a3.2.2==0) then some (0,0,5) else (bif (decide (a3.2.1<5)) then some (0,0,5) else (bif (decide (a3.2.1>1048576)) then some (0,0,5) else some (a3.2.1,a3.2.2,0))))) else (bif (a3.2.2==0) then some (0,0,5) else (bif (decide (a3.2.1<5)) then some (0,0,5) else (bif (decide (a3.2.1>1048576)) then some (0,0,5) else some (a3.2.1,a3.2.2,0)))))) (fun b4=>some b4) o2)
def yHj (k:Nat):zZb:=zYv (zGy k)
def zZv:zE:=⟨[.imm (.slice (.int .u8))], [.imm (.int .i64), .imm (.int .i64), .imm (.int .i64)],fun k x=>yHj k x⟩
def yJ0:zV:=fun n=>cond (Nat.beq n 6) (some xGz) (none)
def yN8:List (Nat×zE):= []
abbrev zQi:=Int→(List Int)→Int→Int→Option Int
def zQ2 (q:zQi):zQi:=fun v0 v1 v2 v3=>(bif (decide (v3<v2)) then ((at? v1 v3).bind fun e1=>(bif (decide (0≤(xH .and .u32 (xH .xor .u32 v0 (IntKind.wrap .u32 e1)) 15))&&decide ((xH .and .u32 (xH .xor .u32 v0 (IntKind.wrap .u32 e1)) 15)<((16:Nat):Int))) then ((at? zCl (xH .and .u32 (xH .xor .u32 v0 (IntKind.wrap .u32 e1)) 15)).bind fun e2=>(bif (decide (0≤(xH .and .u32 (xH .xor .u32 e2 (zB2 .u32 (xH .xor .u32 v0 (IntKind.wrap .u32 e1)) 4)) 15))&&decide ((xH .and .u32 (xH .xor .u32 e2 (zB2 .u32 (xH .xor .u32 v0 (IntKind.wrap .u32 e1)) 4)) 15)<((16:Nat):Int))) then ((at? zCl (xH .and .u32 (xH .xor .u32 e2 (zB2 .u32 (xH .xor .u32 v0 (IntKind.wrap .u32 e1)) 4)) 15)).bind fun e3=>q (xH .xor .u32 e3 (zB2 .u32 (xH .xor .u32 e2 (zB2 .u32 (xH .xor .u32 v0 (IntKind.wrap .u32 e1)) 4)) 4)) v1 v2 (IntKind.wrap .i64 (v3+1))) else none)) else none)) else some v0)
def zM1:Nat→zQi
 |0=>fun _ _ _ _=>none
 |k+1=>zQ2 (zM1 k)
def xLm:wV:=⟨⟨[], [.val 5 (.int .u32), .val 10 (.slice (.int .u8)), .val 11 (.int .i64), .val 12 (.int .i64)]⟩, [(.exit 0,⟨[], [.val 5 (.int .u32)]⟩)],fun k x=>zM1 k x.1 x.2.1 x.2.2.1 x.2.2.2⟩
abbrev yHf:=Int→(List Int)→Option Int
def yG6 (h0:zQi):yHf:=fun x0 x1=>((h0 (xH .xor .u32 4294967295 x0) x1 ((x1).length:Int) 0).bind fun o4=>some (xH .xor .u32 4294967295 o4))
def yPo (k:Nat):yHf:=yG6 (zM1 k)
def yE0:zE:=⟨[.imm (.int .u32), .imm (.slice (.int .u8))], [.imm (.int .u32)],fun k x=>yPo k x.1 x.2⟩
def yM5:zV:=fun n=>cond (Nat.beq n 8) (some xLm) (none)
def yUc:List (Nat×zE):= []
abbrev yP7:=(List Int)→Option Int
def yO9 (h0:yHf):yP7:=fun x0=>((h0 0 x0).bind fun r1=>some r1)
def xBn (k:Nat):yP7:=yO9 (yPo k)
def yMb:zE:=⟨[.imm (.slice (.int .u8))], [.imm (.int .u32)],fun k x=>xBn k x⟩
def yVf:zV:=fun _=>none
def xBd:List (Nat×zE):= [(144,yE0)]
abbrev zZt:=(List Int)→Option (List Int)
def yHd (h0:yP7):zZt:=fun x0=>((h0 x0).bind fun r1=>(bif yK (([(IntKind.wrap .u8 (zB2 .u32 r1 24)),(IntKind.wrap .u8 (zB2 .u32 r1 16)),(IntKind.wrap .u8 (zB2 .u32 r1 8)),(IntKind.wrap .u8 r1)]++x0)).length 1 then some ([(IntKind.wrap .u8 (zB2 .u32 r1 24)),(IntKind.wrap .u8 (zB2 .u32 r1 16)),(IntKind.wrap .u8 (zB2 .u32 r1 8)),(IntKind.wrap .u8 r1)]++x0) else none))
def yJn (k:Nat):zZt:=yHd (xBn k)
def zWm:zE:=⟨[.imm (.slice (.int .u8))], [.own (.int .u8)],fun k x=>yJn k x⟩
def yOl:zV:=fun _=>none
def yTj:List (Nat×zE):= [(114,yMb)]
abbrev yHy:=(List Int)→Option ((List Int)×Bool)
def yGv (h0:zZt) (h1:xV):yHy:=fun x0=>(bif (decide (((x0).length:Int)<4)) then some ([],false) else (bif (true&&decide ((4:Int)≤((x0).length:Int))&&decide (((x0).length:Int)≤((x0).length:Int))) then ((h0 (cut x0 4 ((x0).length:Int))).bind fun r1=>(bif (!((xZ r1)==(xZ x0))) then some ([],false) else (bif (true&&decide ((4:Int)≤((x0).length:Int))&&decide (((x0).length:Int)≤((x0).length:Int))) then ((h1 (cut x0 4 ((x0).length:Int))).bind fun r2=>some (r2,true)) else none))) else none))
def yPb (k:Nat):yHy:=yGv (yJn k) (xU k)
def yFa:zE:=⟨[.imm (.slice (.int .u8))], [.own (.int .u8), .imm .bool],fun k x=>yPb k x⟩
def yMt:zV:=fun _=>none
def yUv:List (Nat×zE):= [(79,zWm),(39,wK)]
abbrev zO5:=Int→Int→(List Int)→Bool→Option ((Int×Int×List Int)⊕(Int×Int×Int))
def zXh:zO5:=fun v0 v1 v2 v3=>(bif (!v3) then some (.inr (0,0,5)) else some (.inl (v0,v1,v2)))
def zT2 (k:Nat):zO5:=zXh
def xD0:wV:=⟨⟨[], [.val 4 (.int .i64), .val 6 (.int .i64), .val 7 (.slice (.int .u8)), .val 8 .bool]⟩, [(.normal,⟨[], [.val 4 (.int .i64), .val 6 (.int .i64), .val 7 (.slice (.int .u8))]⟩),(.ret,⟨[(3, .nils)], [.val 2 (.int .u8), .val 4 (.int .i64), .val 5 (.int .i64)]⟩)],fun k x=>zT2 k x.1 x.2.1 x.2.2.1 x.2.2.2⟩
abbrev zZi:=(List Int)→Option (Int×(List Int)×Int×Int)
def zZh (h0:zZb) (h1:yHy) (h2:zO5):zZi:=fun x0=>((h0 x0).bind fun r1=>(bif (r1.2.2 !=0) then some (0, [],0,r1.2.2) else (bif (decide ((IntKind.wrap .i64 (((x0).length:Int)-r1.2.1))<r1.1)) then some (0, [],0,12) else (bif (decide ((0:Int)≤r1.2.1)&&decide (r1.2.1≤(IntKind.wrap .i64 (r1.2.1+r1.1)))&&decide ((IntKind.wrap .i64 (r1.2.1+r1.1))≤((x0).length:Int))) then ((h1 (cut x0 r1.2.1 (IntKind.wrap .i64 (r1.2.1+r1.1)))).bind fun r2=>((h2 r1.2.1 r1.1 r2.1 r2.2).bind fun o3=>Sum.elim (fun a4=>((at? a4.2.2 0).bind fun e6=>(bif (true&&decide ((1:Int)≤((a4.2.2).length:Int))&&decide (((a4.2.2).length:Int)≤((a4.2.2).length:Int))) then (bif (((a4.2.2).length:Int)==((a4.2.2).length:Int)) then some (e6,(cut a4.2.2 1 ((a4.2.2).length:Int)),(IntKind.wrap .i64 (a4.1+a4.2.1)),0) else none) else none))) (fun b5=>some (b5.1, [],b5.2.1,b5.2.2)) o3)) else none))))
def yGt (k:Nat):zZi:=zZh (yHj k) (yPb k) (zT2 k)
def yAr:zE:=⟨[.imm (.slice (.int .u8))], [.imm (.int .u8), .imm (.slice (.int .u8)), .imm (.int .i64), .imm (.int .i64)],fun k x=>yGt k x⟩
def yIe:zV:=fun n=>cond (Nat.beq n 22) (some xD0) (none)
def yOf:List (Nat×zE):= [(121,zZv),(122,yFa)]
abbrev yC9:=(List Int)→Option ((List Int)×Int×Int)
def yC8 (h0:xV):yC9:=fun x0=>((h0 x0).bind fun r1=>some (r1,(0,0)))
def yK4 (k:Nat):yC9:=yC8 (xU k)
def yB8:zE:=⟨[.imm (.slice (.int .u8))], [.fresh (.pair (.slice (.int .u8)) (.pair (.int .i64) (.int .i64)))],fun k x=>yK4 k x⟩
def yLg:zV:=fun _=>none
def yRf:List (Nat×zE):= [(39,wK)]
abbrev zLq:=((List Int)×Int×Int)→Option (Bool×(List Int)×Int×Int)
def zS5:zLq:=fun x0=>some ((x0.2.2==0),x0)
def zPc (k:Nat):zLq:=zS5
def zNt:zE:=⟨[.lent (.pair (.slice (.int .u8)) (.pair (.int .i64) (.int .i64)))], [.imm .bool, .back (.pair (.slice (.int .u8)) (.pair (.int .i64) (.int .i64)))],fun k x=>zPc k x⟩
def zVn:zV:=fun _=>none
def zYt:List (Nat×zE):= []
abbrev zCj:=Int→(List Int)→Int→Int→((List Int)×Int×Int)→Option (((List Int)×Int×Int)⊕(Int×Int×(List Int)×Int×Int))
def zCd (q:zCj):zCj:=fun v0 v1 v2 v3 v4=>(bif (decide (v3<v2)) then ((at? v1 v3).bind fun e1=>(bif (v3==9) then (bif (decide (e1>1)) then some (.inl v4) else (bif (e1==0) then (bif (decide (v3>0)) then some (.inl v4) else (bif decide (0≤(IntKind.wrap .i64 (7*v3))) then (bif (decide (e1<128)) then some (.inr ((xH .or .u64 v0 (zEh .u64 (IntKind.wrap .u64 (xH .and .u8 e1 127)) (IntKind.wrap .i64 (7*v3)))),(IntKind.wrap .i64 (v3+1)),v4)) else q (xH .or .u64 v0 (zEh .u64 (IntKind.wrap .u64 (xH .and .u8 e1 127)) (IntKind.wrap .i64 (7*v3)))) v1 v2 (IntKind.wrap .i64 (v3+1)) v4) else none)) else (bif decide (0≤(IntKind.wrap .i64 (7*v3))) then (bif (decide (e1<128)) then some (.inr ((xH .or .u64 v0 (zEh .u64 (IntKind.wrap .u64 (xH .and .u8 e1 127)) (IntKind.wrap .i64 (7*v3)))),(IntKind.wrap .i64 (v3+1)),v4)) else q (xH .or .u64 v0 (zEh .u64 (IntKind.wrap .u64 (xH .and .u8 e1 127)) (IntKind.wrap .i64 (7*v3)))) v1 v2 (IntKind.wrap .i64 (v3+1)) v4) else none))) else (bif (e1==0) then (bif (decide (v3>0)) then some (.inl v4) else (bif decide (0≤(IntKind.wrap .i64 (7*v3))) then (bif (decide (e1<128)) then some (.inr ((xH .or .u64 v0 (zEh .u64 (IntKind.wrap .u64 (xH .and .u8 e1 127)) (IntKind.wrap .i64 (7*v3)))),(IntKind.wrap .i64 (v3+1)),v4)) else q (xH .or .u64 v0 (zEh .u64 (IntKind.wrap .u64 (xH .and .u8 e1 127)) (IntKind.wrap .i64 (7*v3)))) v1 v2 (IntKind.wrap .i64 (v3+1)) v4) else none)) else (bif decide (0≤(IntKind.wrap .i64 (7*v3))) then (bif (decide (e1<128)) then some (.inr ((xH .or .u64 v0 (zEh .u64 (IntKind.wrap .u64 (xH .and .u8 e1 127)) (IntKind.wrap .i64 (7*v3)))),(IntKind.wrap .i64 (v3+1)),v4)) else q (xH .or .u64 v0 (zEh .u64 (IntKind.wrap .u64 (xH .and .u8 e1 127)) (IntKind.wrap .i64 (7*v3)))) v1 v2 (IntKind.wrap .i64 (v3+1)) v4) else none)))) else some (.inl v4))
def kY:Nat→zCj
 |0=>fun _ _ _ _ _=>none
 |k+1=>zCd (kY k)
def ySg:wV:=⟨⟨[(0, .ptr 1000000 0)], [.val 4 (.int .u64), .val 15 (.slice (.int .u8)), .val 16 (.int .i64), .val 17 (.int .i64), .cells 1000000 [.dyn (.slice (.int .u8)), .dyn (.int .i64), .dyn (.int .i64)]]⟩, [(.exit 0,⟨[(0, .ptr 1000000 0)], [.cells 1000000 [.dyn (.slice (.int .u8)), .dyn (.int .i64), .dyn (.int .i64)]]⟩),(.ret,⟨[(0, .ptr 1000000 0)], [.val 2 (.int .u64), .val 3 (.int .i64), .cells 1000000 [.dyn (.slice (.int .u8)), .dyn (.int .i64), .dyn (.int .i64)]]⟩)],fun k x=>kY k x.1 x.2.1 x.2.2.1 x.2.2.2.1 x.2.2.2.2⟩
abbrev zLx:=((List Int)×Int×Int)→Option (Int×Int×(List Int)×Int×Int)
def zLd (h0:zCj):zLx:=fun x0=>(bif (decide ((0:Int)≤x0.2.1)&&decide (x0.2.1≤((x0.1).length:Int))&&decide (((x0.1).length:Int)≤((x0.1).length:Int))) then ((h0 0 (cut x0.1 x0.2.1 ((x0.1).length:Int)) (((cut x0.1 x0.2.1 ((x0.1).length:Int))).length:Int) 0 x0).bind fun o2=>Sum.elim (fun a3=>some (0,0,a3)) (fun b4=>some b4) o2) else none)
def zPt (k:Nat):zLx:=zLd (kY k)
def zN6:zE:=⟨[.lent (.pair (.slice (.int .u8)) (.pair (.int .i64) (.int .i64)))], [.imm (.int .u64), .imm (.int .i64), .back (.pair (.slice (.int .u8)) (.pair (.int .i64) (.int .i64)))],fun k x=>zPt k x⟩
def zV5:zV:=fun n=>cond (Nat.beq n 8) (some ySg) (none)
def zZm:List (Nat×zE):= []
abbrev zKr:=((List Int)×Int×Int)→Int→Option ((List Int)×Int×Int)
def zLh:zKr:=fun x0 x1=>(bif (x0.2.2==0) then some (x0.1,(x0.2.1,x1)) else some x0)
def zPh (k:Nat):zKr:=zLh
def zOb:zE:=⟨[.lent (.pair (.slice (.int .u8)) (.pair (.int .i64) (.int .i64))), .imm (.int .i64)], [.back (.pair (.slice (.int .u8)) (.pair (.int .i64) (.int .i64)))],fun k x=>zPh k x.1 x.2⟩
def zVw:zV:=fun _=>none
def zZy:List (Nat×zE):= []
abbrev zGf:=((List Int)×Int×Int)→Option (Int×(List Int)×Int×Int)
def zGl (h0:zLq) (h1:zLx) (h2:zKr):zGf:=fun x0=>((h0 x0).bind fun r1=>(bif (!r1.1) then some (0,r1.2) else ((h1 r1.2).bind fun r2=>(bif (r2.2.1==0) then ((h2 r2.2.2 5).bind fun r3=>some (r2.1,(r3.1,((IntKind.wrap .i64 (r3.2.1+r2.2.1)),r3.2.2)))) else some (r2.1,(r2.2.2.1,((IntKind.wrap .i64 (r2.2.2.2.1+r2.2.1)),r2.2.2.2.2)))))))
def zJ4 (k:Nat):zGf:=zGl (zPc k) (zPt k) (zPh k)
def zJp:zE:=⟨[.lent (.pair (.slice (.int .u8)) (.pair (.int .i64) (.int .i64)))], [.imm (.int .u64), .back (.pair (.slice (.int .u8)) (.pair (.int .i64) (.int .i64)))],fun k x=>zJ4 k x⟩
def zSc:zV:=fun _=>none
def zUx:List (Nat×zE):= [(123,zNt),(124,zN6),(125,zOb)]
abbrev zM5:=((List Int)×Int×Int)→Option (Int×(List Int)×Int×Int)
def zM4:zM5:=fun x0=>some (x0.2.2,x0)
def zSe (k:Nat):zM5:=zM4
def zPx:zE:=⟨[.lent (.pair (.slice (.int .u8)) (.pair (.int .i64) (.int .i64)))], [.imm (.int .i64), .back (.pair (.slice (.int .u8)) (.pair (.int .i64) (.int .i64)))],fun k x=>zSe k x⟩
def zX7:zV:=fun _=>none
def yBh:List (Nat×zE):= []
abbrev zLb:=((List Int)×Int×Int)→Option (Int×(List Int)×Int×Int)
def zK4:zLb:=fun x0=>some ((IntKind.wrap .i64 (((x0.1).length:Int)-x0.2.1)),x0)
def zP9 (k:Nat):zLb:=zK4
def zOq:zE:=⟨[.lent (.pair (.slice (.int .u8)) (.pair (.int .i64) (.int .i64)))], [.imm (.int .i64), .back (.pair (.slice (.int .u8)) (.pair (.int .i64) (.int .i64)))],fun k x=>zP9 k x⟩
def zVh:zV:=fun _=>none
def zYr:List (Nat×zE):= []
abbrev zZ4:=(List Int)→Option ((Int×List Int)×Int×Bool)
def zTk (h0:zZi) (h1:yC9) (h2:zGf) (h3:zM5) (h4:zLb):zZ4:=fun x0=>((h0 x0).bind fun r1=>(bif (r1.2.2.2 !=0) then some ((0, []),0,false) else (bif (r1.1 !=1) then some ((0, []),0,false) else ((h1 r1.2.1).bind fun r2=>((h2 r2).bind fun r3=>((h3 r3.2).bind fun r4=>(bif (r4.1 !=0) then some ((0, []),0,false) else (bif (r3.1==0) then some ((0, []),0,false) else ((h4 r4.2).bind fun r5=>(bif (decide (r5.1>4096)) then some ((0, []),0,false) else ((h4 r5.2).bind fun r6=>(bif (decide ((0:Int)≤(IntKind.wrap .i64 (((r1.2.1).length:Int)-r6.1)))&&decide ((IntKind.wrap .i64 (((r1.2.1).length:Int)-r6.1))≤((r1.2.1).length:Int))&&decide (((r1.2.1).length:Int)≤((r1.2.1).length:Int))) then some ((r3.1,(cut r1.2.1 (IntKind.wrap .i64 (((r1.2.1).length:Int)-r6.1)) ((r1.2.1).length:Int))),r1.2.2.1,true) else none))))))))))))
def yG4 (k:Nat):zZ4:=zTk (yGt k) (yK4 k) (zJ4 k) (zSe k) (zP9 k)
def zZx:zE:=⟨[.imm (.slice (.int .u8))], [.agg (.pair (.int .u64) (.slice (.int .u8))), .imm (.int .i64), .imm .bool],fun k x=>yG4 k x⟩
def yIy:zV:=fun _=>none
def yMv:List (Nat×zE):= [(89,yAr),(90,yB8),(91,zJp),(92,zPx),(93,zOq)]
abbrev zUk:=Bool→Int→Int→(List ((List UInt8)×(List Int)×Int))→Int→Int→((List UInt8)×(List Int)×Int)→(Int×Int)→(Int×List Int)→(List SG)→(List Int)→(List (List Int))→Option ((Bool×Int×Int×(List ((List UInt8)×(List Int)×Int))×Int×Int×((List UInt8)×(List Int)×Int)×(Int×Int)×(Int×List Int)×(List SG)×(List Int)×List (List Int)))
def zUi:zUk:=fun v0 v1 v2 v3 v4 v5 v6 v7 v8 v9 v10 v11=>(bif (((v10).length:Int)==0) then some (v0,v1,v2,v3,v4,v5,v6,(v7.1,v8.1),v8,v9,v10,v11) else some (v0,v1,v2,v3,v4,v5,v6,v7,v8,v9,v10,v11))
def zYh (k:Nat):zUk:=zUi
def xJl:wV:=⟨⟨[(2, .dref 500003),(6, .ptr 500000 0),(9, .ptr 500001 0),(11, .ptr 500002 0)], [.val 3 .bool, .val 10 (.int .i64), .val 12 (.int .i64), .val 14 (.slice (.pair .str (.pair (.slice (.int .u8)) (.int .i64)))), .val 15 (.int .i64), .val 16 (.int .i64), .cells 500000 [.dyn .str, .dyn (.slice (.int .u8)), .dyn (.int .i64)], .cells 500001 [.dyn (.int .i64), .dyn (.int .u64), .stat (.sref 500004), .stat (.sref 500005)], .cells 500002 [.dyn (.int .u64), .dyn (.slice (.int .u8))], .segs 500003, .arr 500004 (.int .i64), .arr 500005 (.slice (.int .u8))]⟩, [(.normal,⟨[(2, .dref 500003),(6, .ptr 500000 0),(9, .ptr 500001 0),(11, .ptr 500002 0)], [.val 3 .bool, .val 10 (.int .i64), .val 12 (.int .i64), .val 14 (.slice (.pair .str (.pair (.slice (.int .u8)) (.int .i64)))), .val 15 (.int .i64), .val 16 (.int .i64), .cells 500000 [.dyn .str, .dyn (.slice (.int .u8)), .dyn (.int .i64)], .cells 500001 [.dyn (.int .i64), .dyn (.int .u64), .stat (.sref 500004), .stat (.sref 500005)], .cells 500002 [.dyn (.int .u64), .dyn (.slice (.int .u8))], .segs 500003, .arr 500004 (.int .i64), .arr 500005 (.slice (.int .u8))]⟩)],fun k x=>zYh k x.1 x.2.1 x.2.2.1 x.2.2.2.1 x.2.2.2.2.1 x.2.2.2.2.2.1 x.2.2.2.2.2.2.1 x.2.2.2.2.2.2.2.1 x.2.2.2.2.2.2.2.2.1 x.2.2.2.2.2.2.2.2.2.1 x.2.2.2.2.2.2.2.2.2.2.1 x.2.2.2.2.2.2.2.2.2.2.2⟩
abbrev zT7:=Bool→Int→Int→Int→Bool→(List ((List UInt8)×(List Int)×Int))→Int→Int→((List UInt8)×(List Int)×Int)→(Int×Int)→(Int×List Int)→(List Int)→(List (List Int))→(List SG)→Option ((Bool×Int×Int×Int×(List ((List UInt8)×(List Int)×Int))×Int×Int×Bool×((List UInt8)×(List Int)×Int)×(Int×Int)×(Int×List Int)×(List SG)×(List Int)×List (List Int)))
def zUm:zT7:=fun v0 v1 v2 v3 v4 v5 v6 v7 v8 v9 v10 v11 v12 v13=>(bif (!v4) then some (v0,v1,v2,v3,v5,v6,v7,true,v8,v9,v10,v13,v11,v12) else (bif (v1 !=0) then some (v0,v1,v2,v3,v5,v6,v7,(v10.1 !=v1),v8,v9,v10,v13,v11,v12) else some (v0,v1,v2,v3,v5,v6,v7,false,v8,v9,v10,v13,v11,v12)))
def yAg (k:Nat):zT7:=zUm
def xKv:wV:=⟨⟨[(2, .dref 500005),(6, .ptr 500000 0),(9, .ptr 500001 0),(11, .ptr 500002 0)], [.val 3 .bool, .val 4 (.int .u64), .val 10 (.int .i64), .val 12 (.int .i64), .val 13 .bool, .val 14 (.slice (.pair .str (.pair (.slice (.int .u8)) (.int .i64)))), .val 15 (.int .i64), .val 16 (.int .i64), .cells 500000 [.dyn .str, .dyn (.slice (.int .u8)), .dyn (.int .i64)], .cells 500001 [.dyn (.int .i64), .dyn (.int .u64), .stat (.sref 500003), .stat (.sref 500004)], .cells 500002 [.dyn (.int .u64), .dyn (.slice (.int .u8))], .arr 500003 (.int .i64), .arr 500004 (.slice (.int .u8)), .segs 500005]⟩, [(.normal,⟨[(2, .dref 500003),(6, .ptr 500000 0),(9, .ptr 500001 0),(11, .ptr 500002 0)], [.val 3 .bool, .val 4 (.int .u64), .val 10 (.int .i64), .val 12 (.int .i64), .val 14 (.slice (.pair .str (.pair (.slice (.int .u8)) (.int .i64)))), .val 15 (.int .i64), .val 16 (.int .i64), .val 77 .bool, .cells 500000 [.dyn .str, .dyn (.slice (.int .u8)), .dyn (.int .i64)], .cells 500001 [.dyn (.int .i64), .dyn (.int .u64), .stat (.sref 500004), .stat (.sref 500005)], .cells 500002 [.dyn (.int .u64), .dyn (.slice (.int .u8))], .segs 500003, .arr 500004 (.int .i64), .arr 500005 (.slice (.int .u8))]⟩)],fun k x=>yAg k x.1 x.2.1 x.2.2.1 x.2.2.2.1 x.2.2.2.2.1 x.2.2.2.2.2.1 x.2.2.2.2.2.2.1 x.2.2.2.2.2.2.2.1 x.2.2.2.2.2.2.2.2.1 x.2.2.2.2.2.2.2.2.2.1 x.2.2.2.2.2.2.2.2.2.2.1 x.2.2.2.2.2.2.2.2.2.2.2.1 x.2.2.2.2.2.2.2.2.2.2.2.2.1 x.2.2.2.2.2.2.2.2.2.2.2.2.2⟩
abbrev zN0:=Bool→Int→Int→(List ((List UInt8)×(List Int)×Int))→Int→Int→((List UInt8)×(List Int)×Int)→(Int×Int)→(List Int)→(List (List Int))→(List SG)→Option ((Bool×Int×(List ((List UInt8)×(List Int)×Int))×Int×Int×(Int×Int)×(List Int)×(List (List Int))×List SG)⊕(Bool×List SG))
def zOx (h0:zZ4) (h1:zT7) (h2:zUk) (q:zN0):zN0:=fun v0 v1 v2 v3 v4 v5 v6 v7 v8 v9 v10=>(bif (decide (v2<((v6.2.1).length:Int))) then (bif (decide ((0:Int)≤v2)&&decide (v2≤((v6.2.1).length:Int))&&decide (((v6.2.1).length:Int)≤((v6.2.1).length:Int))) then ((h0 (cut v6.2.1 v2 ((v6.2.1).length:Int))).bind fun r7=>((h1 v0 v1 v2 r7.2.1 r7.2.2 v3 v4 v5 v6 v7 r7.1 v8 v9 v10).bind fun o8=>(bif o8.2.2.2.2.2.2.2.1 then some (.inl (false,o8.2.1,o8.2.2.2.2.1,o8.2.2.2.2.2.1,o8.2.2.2.2.2.2.1,o8.2.2.2.2.2.2.2.2.2.1,o8.2.2.2.2.2.2.2.2.2.2.2.2.1,o8.2.2.2.2.2.2.2.2.2.2.2.2.2,o8.2.2.2.2.2.2.2.2.2.2.2.1)) else ((h2 o8.1 o8.2.2.1 o8.2.2.2.1 o8.2.2.2.2.1 o8.2.2.2.2.2.1 o8.2.2.2.2.2.2.1 o8.2.2.2.2.2.2.2.2.1 o8.2.2.2.2.2.2.2.2.2.1 o8.2.2.2.2.2.2.2.2.2.2.1 o8.2.2.2.2.2.2.2.2.2.2.2.1 o8.2.2.2.2.2.2.2.2.2.2.2.2.1 o8.2.2.2.2.2.2.2.2.2.2.2.2.2).bind fun o9=>(bif yK ((o9.2.2.2.2.2.2.2.2.2.2.1++ [(IntKind.wrap .i64 (o9.2.1+o9.2.2.1))])).length 8 then (bif yK ((o9.2.2.2.2.2.2.2.2.2.2.2++ [o9.2.2.2.2.2.2.2.2.1.2])).length 24 then (bif ((IntKind.wrap .u64 (o9.2.2.2.2.2.2.2.2.1.1+1))==0) then (bif yK ((o9.2.2.2.2.2.2.2.2.2.1).length+(([(o9.2.2.2.2.2.2.2.1.1,o9.2.2.2.2.2.2.2.1.2,(o9.2.2.2.2.2.2.2.2.2.2.1++ [(IntKind.wrap .i64 (o9.2.1+o9.2.2.1))]),(o9.2.2.2.2.2.2.2.2.2.2.2++ [o9.2.2.2.2.2.2.2.2.1.2]))]:List SG)).length) 8 then some (.inr (((IntKind.wrap .i64 (o9.2.1+o9.2.2.1))==((o9.2.2.2.2.2.2.1.2.1).length:Int)),((o9.2.2.2.2.2.2.2.2.2.1++([(o9.2.2.2.2.2.2.2.1.1,o9.2.2.2.2.2.2.2.1.2,(o9.2.2.2.2.2.2.2.2.2.2.1++ [(IntKind.wrap .i64 (o9.2.1+o9.2.2.1))]),(o9.2.2.2.2.2.2.2.2.2.2.2++ [o9.2.2.2.2.2.2.2.2.1.2]))]:List SG)).set (((o9.2.2.2.2.2.2.2.2.2.1).length)+0) (o9.2.2.2.2.2.2.2.1.1,o9.2.2.2.2.2.2.2.1.2,(o9.2.2.2.2.2.2.2.2.2.2.1++ [(IntKind.wrap .i64 (o9.2.1+o9.2.2.1))]),(o9.2.2.2.2.2.2.2.2.2.2.2++ [o9.2.2.2.2.2.2.2.2.1.2]))))) else none) else q o9.1 (IntKind.wrap .u64 (o9.2.2.2.2.2.2.2.2.1.1+1)) (IntKind.wrap .i64 (o9.2.1+o9.2.2.1)) o9.2.2.2.1 o9.2.2.2.2.1 o9.2.2.2.2.2.1 o9.2.2.2.2.2.2.1 o9.2.2.2.2.2.2.2.1 (o9.2.2.2.2.2.2.2.2.2.2.1++ [(IntKind.wrap .i64 (o9.2.1+o9.2.2.1))]) (o9.2.2.2.2.2.2.2.2.2.2.2++ [o9.2.2.2.2.2.2.2.2.1.2]) o9.2.2.2.2.2.2.2.2.2.1) else none) else none))))) else none) else some (.inl (v0,v1,v3,v4,v5,v7,v8,v9,v10)))
def zJh:Nat→zN0
 |0=>fun _ _ _ _ _ _ _ _ _ _ _=>none
 |k+1=>zOx (yG4 k) (yAg k) (zYh k) (zJh k)
def xH2:wV:=⟨⟨[(2, .dref 500004),(6, .ptr 500000 0),(9, .ptr 500001 0)], [.val 3 .bool, .val 4 (.int .u64), .val 10 (.int .i64), .val 14 (.slice (.pair .str (.pair (.slice (.int .u8)) (.int .i64)))), .val 15 (.int .i64), .val 16 (.int .i64), .cells 500000 [.dyn .str, .dyn (.slice (.int .u8)), .dyn (.int .i64)], .cells 500001 [.dyn (.int .i64), .dyn (.int .u64), .stat (.sref 500002), .stat (.sref 500003)], .arr 500002 (.int .i64), .arr 500003 (.slice (.int .u8)), .segs 500004]⟩, [(.exit 2,⟨[(2, .dref 500003),(9, .ptr 500000 0)], [.val 3 .bool, .val 4 (.int .u64), .val 14 (.slice (.pair .str (.pair (.slice (.int .u8)) (.int .i64)))), .val 15 (.int .i64), .val 16 (.int .i64), .cells 500000 [.dyn (.int .i64), .dyn (.int .u64), .stat (.sref 500001), .stat (.sref 500002)], .arr 500001 (.int .i64), .arr 500002 (.slice (.int .u8)), .segs 500003]⟩),(.ret,⟨[(2, .dref 500000)], [.val 3 .bool, .segs 500000]⟩)],fun k x=>zJh k x.1 x.2.1 x.2.2.1 x.2.2.2.1 x.2.2.2.2.1 x.2.2.2.2.2.1 x.2.2.2.2.2.2.1 x.2.2.2.2.2.2.2.1 x.2.2.2.2.2.2.2.2.1 x.2.2.2.2.2.2.2.2.2.1 x.2.2.2.2.2.2.2.2.2.2⟩
abbrev zT9:=Bool→Int→Int→(List ((List UInt8)×(List Int)×Int))→Int→Int→((List UInt8)×(List Int)×Int)→(List SG)→Option ((Bool×Int×Int×(List ((List UInt8)×(List Int)×Int))×Int×Int×((List UInt8)×(List Int)×Int)×List SG)⊕(Bool×List SG))
def zUe:zT9:=fun v0 v1 v2 v3 v4 v5 v6 v7=>(bif (!v0) then some (.inr (v0,v7)) else (bif (decide (((v7).length:Int)>0)) then (bif (decide (0≤(IntKind.wrap .i64 (((v7).length:Int)-1)))&&decide ((IntKind.wrap .i64 (((v7).length:Int)-1))<(v7).length)) then ((v7[Int.toNat (IntKind.wrap .i64 (((v7).length:Int)-1))]?).bind fun w3=>(bif (v2 !=(IntKind.wrap .i64 (w3.1+1))) then some (.inr (v0,(v7.set (Int.toNat (IntKind.wrap .i64 (((v7).length:Int)-1))) w3))) else some (.inl (v0,v1,v2,v3,v4,v5,v6,(v7.set (Int.toNat (IntKind.wrap .i64 (((v7).length:Int)-1))) w3))))) else none) else some (.inl (v0,v1,v2,v3,v4,v5,v6,v7))))
def zZk (k:Nat):zT9:=zUe
def xIo:wV:=⟨⟨[(2, .dref 500001),(6, .ptr 500000 0)], [.val 3 .bool, .val 4 (.int .u64), .val 7 (.int .i64), .val 14 (.slice (.pair .str (.pair (.slice (.int .u8)) (.int .i64)))), .val 15 (.int .i64), .val 16 (.int .i64), .cells 500000 [.dyn .str, .dyn (.slice (.int .u8)), .dyn (.int .i64)], .segs 500001]⟩, [(.normal,⟨[(2, .dref 500001),(6, .ptr 500000 0)], [.val 3 .bool, .val 4 (.int .u64), .val 7 (.int .i64), .val 14 (.slice (.pair .str (.pair (.slice (.int .u8)) (.int .i64)))), .val 15 (.int .i64), .val 16 (.int .i64), .cells 500000 [.dyn .str, .dyn (.slice (.int .u8)), .dyn (.int .i64)], .segs 500001]⟩),(.exit 0,⟨[(2, .dref 500001)], [.val 3 .bool, .segs 500001]⟩)],fun k x=>zZk k x.1 x.2.1 x.2.2.1 x.2.2.2.1 x.2.2.2.2.1 x.2.2.2.2.2.1 x.2.2.2.2.2.2.1 x.2.2.2.2.2.2.2⟩
abbrev zOm:=Bool→Int→(List ((List UInt8)×(List Int)×Int))→Int→Int→(List SG)→Option ((Bool×List SG)⊕(Bool×List SG))
def zIn (h0:zZr) (h1:zT9) (h2:zN0) (q:zOm):zOm:=fun v0 v1 v2 v3 v4 v5=>(bif (decide (v4<v3)) then ((at? v2 v4).bind fun e1=>((h0 e1.1).bind fun r2=>(bif (!r2.2) then q v0 v1 v2 v3 (IntKind.wrap .i64 (v4+1)) v5 else ((h1 v0 v1 r2.1 v2 v3 v4 e1 v5).bind fun o4=>Sum.elim (fun a5=>((h2 a5.1 a5.2.1 0 a5.2.2.2.1 a5.2.2.2.2.1 a5.2.2.2.2.2.1 a5.2.2.2.2.2.2.1 (a5.2.2.1,0) [] [] a5.2.2.2.2.2.2.2).bind fun o10=>Sum.elim (fun a11=>(bif yK ((a11.2.2.2.2.2.2.2.2).length+(([(a11.2.2.2.2.2.1.1,a11.2.2.2.2.2.1.2,a11.2.2.2.2.2.2.1,a11.2.2.2.2.2.2.2.1)]:List SG)).length) 8 then q a11.1 a11.2.1 a11.2.2.1 a11.2.2.2.1 (IntKind.wrap .i64 (a11.2.2.2.2.1+1)) ((a11.2.2.2.2.2.2.2.2++([(a11.2.2.2.2.2.1.1,a11.2.2.2.2.2.1.2,a11.2.2.2.2.2.2.1,a11.2.2.2.2.2.2.2.1)]:List SG)).set (((a11.2.2.2.2.2.2.2.2).length)+0) (a11.2.2.2.2.2.1.1,a11.2.2.2.2.2.1.2,a11.2.2.2.2.2.2.1,a11.2.2.2.2.2.2.2.1)) else none)) (fun b12=>some (.inr b12)) o10)) (fun b6=>some (.inl b6)) o4)))) else some (.inl (v0,v5)))
def zJq:Nat→zOm
 |0=>fun _ _ _ _ _ _=>none
 |k+1=>zIn (yAi k) (zZk k) (zJh k) (zJq k)
def xKl:wV:=⟨⟨[(2, .dref 500001)], [.val 3 .bool, .val 4 (.int .u64), .val 14 (.slice (.pair .str (.pair (.slice (.int .u8)) (.int .i64)))), .val 15 (.int .i64), .val 16 (.int .i64), .segs 500001]⟩, [(.exit 0,⟨[(2, .dref 500001)], [.val 3 .bool, .segs 500001]⟩),(.ret,⟨[(2, .dref 500000)], [.val 3 .bool, .segs 500000]⟩)],fun k x=>zJq k x.1 x.2.1 x.2.2.1 x.2.2.2.1 x.2.2.2.2.1 x.2.2.2.2.2⟩
abbrev yGw:=(List ((List UInt8)×(List Int)×Int))→Option ((List SG)×Bool)
def yGz (h0:zOm):yGw:=fun x0=>((h0 true 0 x0 ((x0).length:Int) 0 []).bind fun o13=>Sum.elim (fun a14=>some (a14.2,a14.1)) (fun b15=>some (b15.2,b15.1)) o13)
def yQr (k:Nat):yGw:=yGz (zJq k)
def yE9:zE:=⟨[.imm (.slice (.pair .str (.pair (.slice (.int .u8)) (.int .i64))))], [.owns, .imm .bool],fun k x=>yQr k x⟩
def yOv:zV:=fun n=>cond (Nat.beq n 59) (some xJl) (cond (Nat.beq n 52) (some xKv) (cond (Nat.beq n 41) (some xH2) (cond (Nat.beq n 29) (some xIo) (cond (Nat.beq n 10) (some xKl) (none)))))
def yT6:List (Nat×zE):= [(30,zSl),(63,zZx)]
def yRg:zE:=⟨[.imm (.slice (.pair .str (.pair (.slice (.int .u8)) (.int .i64))))], [.imm (.box 64 (.slice (.pair .str (.pair (.slice (.int .u8)) (.int .i64)))))],fun _ x=>some x⟩
abbrev zFw:=FL→(List UInt8)→Option (Int×FL)
def zKk (h0:zE8):zFw:=fun x0 x1=>((h0 x0 x1).bind fun r1=>((r1.1.2).elim ((bif (r1.2==0) then some (r1.2,(zKa (kt:= .str) x1 r1.1.1)) else some (r1.2,r1.1.1))) fun k2=>((xG (kt:= .str) k2 r1.1.1).bind fun w3=>(bif (r1.2==0) then (bif (x1==k2) then some (r1.2,(zKa (kt:= .str) x1 r1.1.1)) else none) else some (r1.2,(wJ (kt:= .str) k2 (w3.1,w3.2) r1.1.1))))))
def zE6 (k:Nat):zFw:=zKk (zIl k)
def zCi:zE:=⟨[.disk, .imm .str], [.imm (.int .i64), .backd],fun k x=>zE6 k x.1 x.2⟩
def zVp:zV:=fun _=>none
def yAl:List (Nat×zE):= [(62,zEn)]
def yB4:zE:=⟨[.iter (.pair .str (.pair (.slice (.int .u8)) (.int .i64)))], [],fun _ _=>none⟩
def yFp:zE:=yYc
def yBi:zE:=yQv
abbrev zHx:=Int→Option (List UInt8)
def yG9:zHx:=fun x0=>((yQz x0).bind fun r1=>((yH9 [48] (zDo 0 (IntKind.wrap .i64 (8-((r1).length:Int))))).bind fun r2=>(bif Nat.ble (([119,97,108,45]:List UInt8).length+r2.length) 9223372036854775807 then (bif Nat.ble (([119,97,108,45]++r2).length+r1.length) 9223372036854775807 then some (([119,97,108,45]++r2)++r1) else none) else none)))
def zPn (k:Nat):zHx:=yG9
def zG5:zE:=⟨[.imm (.int .i64)], [.imm .str],fun k x=>zPn k x⟩
def yOc:zV:=fun _=>none
def yTt:List (Nat×zE):= [(68,yFp),(69,yBi)]
abbrev zCw:=SG→Option Int
def zK3:zCw:=fun x0=>(bif (((x0.2.2.1).length:Int)==0) then some 0 else ((at? x0.2.2.1 (IntKind.wrap .i64 (((x0.2.2.1).length:Int)-1))).bind fun e1=>some e1))
def zE5 (k:Nat):zCw:=zK3
def zCs:zE:=⟨[.ro sgT], [.imm (.int .i64)],fun k x=>zE5 k x⟩
def zVz:zV:=fun _=>none
def zYm:List (Nat×zE):= []
abbrev zL1:=FL→(List UInt8)→Int→Option (Int×FL)
def zR2 (h0:zE8) (h1:xV):zL1:=fun x0 x1 x2=>((h0 x0 x1).bind fun r1=>((r1.1.2).elim ((bif (r1.2 !=0) then some (r1.2,r1.1.1) else (bif (decide (x2<0)) then some (1,r1.1.1) else none))) fun k2=>((xG (kt:= .str) k2 r1.1.1).bind fun w3=>(bif (r1.2 !=0) then some (r1.2,(wJ (kt:= .str) k2 (w3.1,w3.2) r1.1.1)) else (bif (decide (x2<0)) then some (1,(wJ (kt:= .str) k2 (w3.1,w3.2) r1.1.1)) else (bif (decide (x2>((w3.1).length:Int))) then some (1,(wJ (kt:= .str) k2 (w3.1,w3.2) r1.1.1)) else (bif (decide ((0:Int)≤x2)&&decide (x2≤((w3.1).length:Int))) then ((h1 (cut w3.1 0 x2)).bind fun r4=>some (0,(wJ (kt:= .str) k2 (r4,(jW w3.2 x2)) r1.1.1))) else none)))))))
def zQv (k:Nat):zL1:=zR2 (zIl k) (xU k)
def zKo:zE:=⟨[.disk, .imm .str, .imm (.int .i64)], [.imm (.int .i64), .backd],fun k x=>zQv k x.1 x.2.1 x.2.2⟩
def yBj:zV:=fun _=>none
def yGd:List (Nat×zE):= [(62,zEn),(39,wK)]
abbrev xB8:=(List ((List UInt8)×(List Int)×Int))→Unit→Unit→(List SG)→Unit→Int→FL→Option ((List ((List UInt8)×(List Int)×Int))×Unit×Unit×(List SG)×Unit×Int×FL)
def zQo (k:Nat) (i:Nat) (e:(List UInt8)×(List Int)×Int) (v0:List ((List UInt8)×(List Int)×Int)) (v1:Unit) (v2:Unit) (v3:List SG) (v4:Unit) (v5:Int) (v6:FL):Option ((List ((List UInt8)×(List Int)×Int))×Unit×Unit×(List SG)×Unit×Int×FL):=((yAi k e.1).bind fun r7=>(bif r7.2 then (bif (decide (r7.1>v5)) then ((zE6 k v6 e.1).bind fun r8=>some (v0,(),(),v3,(),v5,r8.2)) else some (v0,(),(),v3,(),v5,v6)) else some (v0,(),(),v3,(),v5,v6)))
def yJt (k:Nat) (v0:List ((List UInt8)×(List Int)×Int)) (v1:Unit) (v2:Unit) (v3:List SG) (v4:Unit) (v5:Int) (v6:FL):Option ((List ((List UInt8)×(List Int)×Int))×Unit×Unit×(List SG)×Unit×Int×FL):=(bif Nat.ble v0.length 4611686018427387904 then zSj (fun i e (x:(List ((List UInt8)×(List Int)×Int))×Unit×Unit×(List SG)×Unit×Int×FL)=>zQo k i e x.1 x.2.1 x.2.2.1 x.2.2.2.1 x.2.2.2.2.1 x.2.2.2.2.2.1 x.2.2.2.2.2.2) v0 v0.length (v0,v1,v2,v3,v4,v5,v6) else none)
def xKw:wV:=⟨⟨[(0, .ptr 2000000 0),(1, .ptr 500000 0),(5, .dref 500001),(7, .ptr 500002 0),(8, .ptr 500003 0)], [.val 41 (.box 64 (.slice (.pair .str (.pair (.slice (.int .u8)) (.int .i64))))), .cells 2000000 [.stat (.mref 1000000)], .cells 500000 [.stat (.ptr 2000000 0)], .segs 500001, .cells 500002 [.stat (.ptr 2000000 0), .stat (.dref 500001)], .cells 500003 [.dyn (.int .i64)], .pm 1000000]⟩, [(.normal,⟨[(0, .ptr 2000000 0),(1, .ptr 500000 0),(5, .dref 500001),(7, .ptr 500002 0),(8, .ptr 500003 0)], [.val 41 (.box 64 (.slice (.pair .str (.pair (.slice (.int .u8)) (.int .i64))))), .cells 2000000 [.stat (.mref 1000000)], .cells 500000 [.stat (.ptr 2000000 0)], .segs 500001, .cells 500002 [.stat (.ptr 2000000 0), .stat (.dref 500001)], .cells 500003 [.dyn (.int .i64)], .pm 1000000]⟩)],fun k x=>yJt k x.1 x.2.1 x.2.2.1 x.2.2.2.1 x.2.2.2.2.1 x.2.2.2.2.2.1 x.2.2.2.2.2.2⟩
abbrev zUq:=(List ((List UInt8)×(List Int)×Int))→Unit→Unit→FL→Option (((List ((List UInt8)×(List Int)×Int))×Unit×Unit×(List SG)×FL))
def zOh (h0:yGw):zUq:=fun v0 v1 v2 v3=>((h0 v0).bind fun r3=>some (v0,(),(),r3.1,v3))
def yA3 (k:Nat):zUq:=zOh (yQr k)
def xJ2:wV:=⟨⟨[(0, .ptr 2000000 0),(1, .ptr 500000 0)], [.val 4 (.slice (.pair .str (.pair (.slice (.int .u8)) (.int .i64)))), .cells 2000000 [.stat (.mref 1000000)], .cells 500000 [.stat (.ptr 2000000 0)], .pm 1000000]⟩, [(.normal,⟨[(0, .ptr 2000000 0),(1, .ptr 500000 0),(5, .dref 500001)], [.val 4 (.slice (.pair .str (.pair (.slice (.int .u8)) (.int .i64)))), .cells 2000000 [.stat (.mref 1000000)], .cells 500000 [.stat (.ptr 2000000 0)], .segs 500001, .pm 1000000]⟩)],fun k x=>yA3 k x.1 x.2.1 x.2.2.1 x.2.2.2⟩
abbrev zUc:=FL→Option ((Option (Unit×List SG))×Int×FL)
def yAu (h0:zFe) (h1:zHr) (h2:zUq) (h3:xB8) (h4:zHx) (h5:zCw) (h6:zL1):zUc:=fun x0=>((h0 x0 []).bind fun r1=>(bif (r1.1==1) then some (none,1,r1.2) else ((h1 r1.2).bind fun r2=>((h2 r2.1 () () r2.2).bind fun o4=>(bif (decide (((o4.2.2.2.1).length:Int)>0)) then (bif (decide (0≤(IntKind.wrap .i64 (((o4.2.2.2.1).length:Int)-1)))&&decide ((IntKind.wrap .i64 (((o4.2.2.2.1).length:Int)-1))<(o4.2.2.2.1).length)) then ((o4.2.2.2.1[Int.toNat (IntKind.wrap .i64 (((o4.2.2.2.1).length:Int)-1))]?).bind fun w5=>((some o4.1).bind fun r6=>((h3 r6 () () (o4.2.2.2.1.set (Int.toNat (IntKind.wrap .i64 (((o4.2.2.2.1).length:Int)-1))) w5) () w5.1 o4.2.2.2.2).bind fun o9=>(bif (decide (((o9.2.2.2.1).length:Int)>0)) then (bif (decide (0≤(IntKind.wrap .i64 (((o9.2.2.2.1).length:Int)-1)))&&decide ((IntKind.wrap .i64 (((o9.2.2.2.1).length:Int)-1))<(o9.2.2.2.1).length)) then ((o9.2.2.2.1[Int.toNat (IntKind.wrap .i64 (((o9.2.2.2.1).length:Int)-1))]?).bind fun w10=>((h4 w10.1).bind fun r11=>((h5 w10).bind fun r12=>((h6 o9.2.2.2.2.2.2 r11 r12).bind fun r13=>some ((some ((),(o9.2.2.2.1.set (Int.toNat (IntKind.wrap .i64 (((o9.2.2.2.1).length:Int)-1))) w10))),0,r13.2))))) else none) else some ((some ((),o9.2.2.2.1)),0,o9.2.2.2.2.2.2))))) else none) else ((some o4.1).bind fun r14=>((h3 r14 () () o4.2.2.2.1 () 0 o4.2.2.2.2).bind fun o15=>(bif (decide (((o15.2.2.2.1).length:Int)>0)) then (bif (decide (0≤(IntKind.wrap .i64 (((o15.2.2.2.1).length:Int)-1)))&&decide ((IntKind.wrap .i64 (((o15.2.2.2.1).length:Int)-1))<(o15.2.2.2.1).length)) then ((o15.2.2.2.1[Int.toNat (IntKind.wrap .i64 (((o15.2.2.2.1).length:Int)-1))]?).bind fun w16=>((h4 w16.1).bind fun r17=>((h5 w16).bind fun r18=>((h6 o15.2.2.2.2.2.2 r17 r18).bind fun r19=>some ((some ((),(o15.2.2.2.1.set (Int.toNat (IntKind.wrap .i64 (((o15.2.2.2.1).length:Int)-1))) w16))),0,r19.2))))) else none) else some ((some ((),o15.2.2.2.1)),0,o15.2.2.2.2.2.2)))))))))
def yCv (k:Nat):zUc:=yAu (zIi k) (zKj k) (yA3 k) (yJt k) (zPn k) (zE5 k) (zQv k)
def zWr:zE:=⟨[.disk], [.ofresho [.als, .segs], .imm (.int .i64), .backd],fun k x=>yCv k x⟩
def yMr:zV:=fun n=>cond (Nat.beq n 28) (some xKw) (cond (Nat.beq n 12) (some xJ2) (none))
def yU1:List (Nat×zE):= [(26,zEr),(27,zH5),(28,yE9),(29,yRg),(30,zSl),(31,zCi),(64,yB4),(33,zG5),(34,zCs),(32,zKo)]
abbrev zJo:=(List (Int×Int×Bool×(List Int)×List Int))→Int→Int→Option ((List (Int×Int×Bool×(List Int)×List Int))⊕(List (Int×Int×Bool×(List Int)×List Int)))
def zJx (q:zJo):zJo:=fun v0 v1 v2=>(bif (decide (v2<((v0).length:Int))) then ((at? v0 v2).bind fun e1=>(bif (decide ((IntKind.wrap .i64 (v1+((e1.2.2.2.1).length:Int)))>40000)) then (bif (true&&decide ((0:Int)≤v2)&&decide (v2≤((v0).length:Int))) then some (.inr (cut v0 0 v2)) else none) else (bif (decide (v2≥80)) then (bif (true&&decide ((0:Int)≤v2)&&decide (v2≤((v0).length:Int))) then some (.inr (cut v0 0 v2)) else none) else q v0 (IntKind.wrap .i64 (v1+((e1.2.2.2.1).length:Int))) (IntKind.wrap .i64 (v2+1))))) else some (.inl v0))
def zE9:Nat→zJo
 |0=>fun _ _ _=>none
 |k+1=>zJx (zE9 k)
def xEk:wV:=⟨⟨[], [.val 0 (.slice (.pair (.int .i64) (.pair (.int .u64) (.pair .bool (.pair (.slice (.int .u8)) (.slice (.int .i64))))))), .val 3 (.int .i64), .val 4 (.int .i64)]⟩, [(.exit 0,⟨[], [.val 0 (.slice (.pair (.int .i64) (.pair (.int .u64) (.pair .bool (.pair (.slice (.int .u8)) (.slice (.int .i64)))))))]⟩),(.ret,⟨[], [.val 2 (.slice (.pair (.int .i64) (.pair (.int .u64) (.pair .bool (.pair (.slice (.int .u8)) (.slice (.int .i64)))))))]⟩)],fun k x=>zE9 k x.1 x.2.1 x.2.2⟩
abbrev zWe:=(List (Int×Int×Bool×(List Int)×List Int))→Option (List (Int×Int×Bool×(List Int)×List Int))
def zWv (h0:zJo):zWe:=fun x0=>((h0 x0 0 0).bind fun o2=>Sum.elim (fun a3=>some a3) (fun b4=>some b4) o2)
def yDb (k:Nat):zWe:=zWv (zE9 k)
def zXa:zE:=⟨[.imm (.slice (.pair (.int .i64) (.pair (.int .u64) (.pair .bool (.pair (.slice (.int .u8)) (.slice (.int .i64)))))))], [.imm (.slice (.pair (.int .i64) (.pair (.int .u64) (.pair .bool (.pair (.slice (.int .u8)) (.slice (.int .i64)))))))],fun k x=>yDb k x⟩
def yFr:zV:=fun n=>cond (Nat.beq n 8) (some xEk) (none)
def yKs:List (Nat×zE):= []
abbrev zD0:=(Bool×List (Option SG))→Option Bool
def wR:zD0:=fun x0=>some (!(!x0.1))
def zHy (k:Nat):zD0:=wR
def zBj:zE:=⟨[.ro (.pair .pb (.slice (.opt sgT)))], [.imm .bool],fun k x=>zHy k x⟩
def yIg:zV:=fun _=>none
def yN3:List (Nat×zE):= []
abbrev zCv:=Unit→Option (List (Option SG))
def zOc:zCv:=fun x0=>some []
def zPg (k:Nat):zCv:=zOc
def zBf:zE:=⟨[.nils], [.own (.opt sgT)],fun k x=>zPg k x⟩
def zA1:zV:=fun _=>none
def zBp:List (Nat×zE):= []
abbrev vU:=(List (Option SG))→Option (List (Option SG))
def vV:vU:=fun x0=>(bif yK (([]++x0)).length 8 then some ([]++x0) else none)
def vA (k:Nat):vU:=vV
def zC0:zE:=⟨[.imm (.slice (.opt sgT))], [.own (.opt sgT)],fun k x=>vA k x⟩
def zB8:zE:=⟨[.nnil (.opt sgT)], [.own (.opt sgT)],fun k x=>vA k x⟩
def zCr:zV:=fun _=>none
def zDq:List (Nat×zE):= []
abbrev xR:=(List (Option SG))→(Option SG→Option Bool)→Int→Int→Option (Unit⊕Int)
def xF (q:xR):xR:=fun v0 v1 v2 v3=>(bif (decide (v3<v2)) then ((at? v0 v3).bind fun e1=>((v1 e1).bind fun z2=>(bif z2 then some (.inr v3) else q v0 v1 v2 (IntKind.wrap .i64 (v3+1))))) else some (.inl ()))
def yC:Nat→xR
 |0=>fun _ _ _ _=>none
 |k+1=>xF (yC k)
def zM3:wV:=⟨⟨[], [.val 0 (.slice (.opt sgT)), .fn 1 [⟨(.opt sgT),false⟩] .bool, .val 7 (.int .i64), .val 8 (.int .i64)]⟩, [(.exit 0,⟨[], []⟩),(.ret,⟨[], [.val 4 (.int .i64)]⟩)],fun k x=>yC k x.1 x.2.1 x.2.2.1 x.2.2.2⟩
abbrev wD:=(List (Option SG))→(Option SG→Option Bool)→Option Int
def wE (h0:xR):wD:=fun x0 x1=>((h0 x0 x1 ((x0).length:Int) 0).bind fun o3=>Sum.elim (fun a4=>some (-1)) (fun b5=>some b5) o3)
def yH (k:Nat):wD:=wE (yC k)
def wT:zE:=⟨[.imm (.slice (.opt sgT)), .fn [⟨(.opt sgT),false⟩] .bool], [.imm (.int .i64)],fun k x=>yH k x.1 x.2⟩
def zA5:zV:=fun n=>cond (Nat.beq n 6) (some zM3) (none)
def zBn:List (Nat×zE):= []
abbrev xL:=(Option SG→Option Bool)→Int→Int→(List (Option SG))→Option ((Int×List (Option SG)))
def xB (q:xL):xL:=fun v0 v1 v2 v3=>(bif (decide (v2<((v3).length:Int))) then (bif (decide (0≤v2)&&decide (v2<(v3).length)) then ((v3[Int.toNat v2]?).bind fun w2=>((v0 w2).bind fun z3=>(bif (!z3) then (bif (decide (0≤v1)&&decide (v1<(v3).length)) then ((v3[(Int.toNat v1)]?).bind fun w4=>q v0 (IntKind.wrap .i64 (v1+1)) (IntKind.wrap .i64 (v2+1)) (v3.set (Int.toNat v1) w2)) else none) else q v0 v1 (IntKind.wrap .i64 (v2+1)) v3))) else none) else some (v1,v3))
def zX:Nat→xL
 |0=>fun _ _ _ _=>none
 |k+1=>xB (zX k)
def zKl:wV:=⟨⟨[(0, .sref 500000)], [.fn 1 [⟨(.opt sgT),false⟩] .bool, .val 5 (.int .i64), .val 6 (.int .i64), .arr 500000 (.opt sgT)]⟩, [(.exit 0,⟨[(0, .sref 500000)], [.val 5 (.int .i64), .arr 500000 (.opt sgT)]⟩)],fun k x=>zX k x.1 x.2.1 x.2.2.1 x.2.2.2⟩
abbrev vB:=(List (Option SG))→(Option SG→Option Bool)→Option (List (Option SG))
def wA (h0:wD) (h1:xL):vB:=fun x0 x1=>((h0 x0 x1).bind fun r1=>(bif (r1==(-1)) then some x0 else ((h1 x1 r1 (IntKind.wrap .i64 (r1+1)) x0).bind fun o5=>(bif (decide ((0:Int)≤o5.1)&&decide (o5.1≤((o5.2).length:Int))) then (bif (true&&Nat.ble ((List.replicate (((o5.2).length)-(Int.toNat o5.1)) (none:Option SG))).length (((o5.2).length)-(Int.toNat o5.1))&&Nat.ble ((Int.toNat o5.1)+(((o5.2).length)-(Int.toNat o5.1))) (o5.2).length) then (bif (decide ((0:Int)≤o5.1)&&decide (o5.1≤(((zCg o5.2 (Int.toNat o5.1) (List.replicate (((o5.2).length)-(Int.toNat o5.1)) (none:Option SG)))).length:Int))) then some (cut (zCg o5.2 (Int.toNat o5.1) (List.replicate (((o5.2).length)-(Int.toNat o5.1)) (none:Option SG))) 0 o5.1) else none) else none) else none))))
def yJ (k:Nat):vB:=wA (yH k) (zX k)
def jF:zE:=⟨[.own (.opt sgT), .fn [⟨(.opt sgT),false⟩] .bool], [.own (.opt sgT)],fun k x=>yJ k x.1 x.2⟩
def zAr:zV:=fun n=>cond (Nat.beq n 16) (some zKl) (none)
def zBh:List (Nat×zE):= [(70,wT)]
abbrev zP2:=(Option SG)→Option Bool
def zW0:zP2:=fun x0=>((x0).bind fun w1=>some (((w1.2.2.1).length:Int)==0))
def zTx (k:Nat):zP2:=zW0
def zRv:zE:=⟨[.imm (.opt sgT)], [.imm .bool],fun k x=>zTx k x⟩
def zZ7:zV:=fun _=>none
def yDz:List (Nat×zE):= []
abbrev zOt:=(Bool×List (Option SG))→Option (List (Option SG))
def zUu (h0:zD0) (h1:vU) (h2:vB) (h3:zP2):zOt:=fun x0=>((h0 x0).bind fun r1=>(bif (!r1) then some [] else ((h1 x0.2).bind fun r2=>((h2 r2 (fun y3=>((h3 y3).bind fun z=>some z))).bind fun r4=>some r4))))
def zTu (k:Nat):zOt:=zUu (zHy k) (vA k) (yJ k) (zTx k)
def zNc:zE:=⟨[.ro (.pair .pb (.slice (.opt sgT)))], [.own (.opt sgT)],fun k x=>zTu k x⟩
def yD7:zV:=fun _=>none
def yJ4:List (Nat×zE):= [(35,zBj),(76,zC0),(75,jF),(77,zRv)]
abbrev zCt:=SG→Option Int
def zB9:zCt:=fun x0=>some (IntKind.wrap .u64 ((IntKind.wrap .u64 (x0.2.1+(IntKind.wrap .u64 ((x0.2.2.1).length:Int))))-1))
def zFa (k:Nat):zCt:=zB9
def zCn:zE:=⟨[.ro sgT], [.imm (.int .u64)],fun k x=>zFa k x⟩
def zVt:zV:=fun _=>none
def zYo:List (Nat×zE):= []
abbrev zFc:=(Bool×List (Option SG))→Option Int
def zUt (h0:zOt) (h1:zCt):zFc:=fun x0=>((h0 x0).bind fun r1=>(bif (((r1).length:Int)==0) then some 0 else (bif (decide (0≤(IntKind.wrap .i64 (((r1).length:Int)-1)))&&decide ((IntKind.wrap .i64 (((r1).length:Int)-1))<(r1).length)) then ((r1[Int.toNat (IntKind.wrap .i64 (((r1).length:Int)-1))]?).bind fun w2=>((w2).bind fun w3=>((h1 w3).bind fun r4=>some r4))) else none)))
def zJw (k:Nat):zFc:=zUt (zTu k) (zFa k)
def zD4:zE:=⟨[.ro (.pair .pb (.slice (.opt sgT)))], [.imm (.int .u64)],fun k x=>zJw k x⟩
def yDk:zV:=fun _=>none
def yJz:List (Nat×zE):= [(40,zNc),(41,zCn)]
def zPz:zE:=⟨[.wend], [],fun _ _=>none⟩
abbrev zNv:=(FL×List SG)→Option (FL×List SG)
def zT0 (h0:zD0) (h1:zHx) (h2:zFe):zNv:=fun x0=>((h0 (true,(x0.2.map some))).bind fun r1=>(bif r1 then (bif Nat.ble (x0.2).length 4611686018427387904 then (bif (Nat.beq (x0.2).length 0) then some x0 else ((x0.2[(x0.2).length-1]?).bind fun w2=>(bif Nat.ble (x0.2).length 4611686018427387904 then (bif (Nat.beq (x0.2).length 0) then none else (((x0.2.set ((x0.2).length-1) w2)[(x0.2).length-1]?).bind fun w3=>((h1 w3.1).bind fun r4=>((h2 x0.1 r4).bind fun r5=>some (r5.2,((x0.2.set ((x0.2).length-1) w2).set ((x0.2).length-1) w3)))))) else none))) else none) else some x0))
def zSv (k:Nat):zNv:=zT0 (zHy k) (zPn k) (zIi k)
def zNr:zE:=⟨[.lento [.dsk, .segs]], [.backo [.dsk, .segs]],fun k x=>zSv k x⟩
def yD8:zV:=fun _=>none
def yIo:List (Nat×zE):= [(35,zBj),(36,zPz),(33,zG5),(26,zEr)]
abbrev zFy:=(List UInt8)→Int→Int→Option (Int⊕Int)
def zF4 (q:zFy):zFy:=fun v0 v1 v2=>(bif (decide (v2<12)) then ((at? v0 v2).bind fun c1=>(bif (decide ((c1.toNat:Int)<48)) then some (.inr 0) else ((at? v0 v2).bind fun c2=>(bif (decide ((c2.toNat:Int)>57)) then some (.inr 0) else ((at? v0 v2).bind fun c3=>q v0 (IntKind.wrap .i64 ((IntKind.wrap .i64 (v1*10))+(IntKind.wrap .i64 (IntKind.wrap .u8 ((c3.toNat:Int)-48))))) (IntKind.wrap .i64 (v2+1))))))) else some (.inl v1))
def zB6:Nat→zFy
 |0=>fun _ _ _=>none
 |k+1=>zF4 (zB6 k)
def yYm:wV:=⟨⟨[], [.val 0 .str, .val 3 (.int .i64), .val 4 (.int .i64)]⟩, [(.exit 0,⟨[], [.val 3 (.int .i64)]⟩),(.ret,⟨[], [.val 2 (.int .i64)]⟩)],fun k x=>zB6 k x.1 x.2.1 x.2.2⟩
abbrev zEx:=(List UInt8)→Option Int
def zT8 (h0:zFy):zEx:=fun x0=>(bif (((x0).length:Int) !=12) then some 0 else (bif (true&&true&&decide ((4:Int)≤((x0).length:Int))) then (bif (!((cut x0 0 4)== [119,97,108,45])) then some 0 else ((h0 x0 0 4).bind fun o4=>Sum.elim (fun a5=>some a5) (fun b6=>some b6) o4)) else none))
def zJa (k:Nat):zEx:=zT8 (zB6 k)
def zHn:zE:=⟨[.imm .str], [.imm (.int .i64)],fun k x=>zJa k x⟩
def yDy:zV:=fun n=>cond (Nat.beq n 16) (some yYm) (none)
def yI8:List (Nat×zE):= []
abbrev yAn:=((List Int)×Int×Int)→Option (Int×Bool×(List Int)×Int×Int)
def zTv:yAn:=fun x0=>(bif (x0.2.2 !=0) then some (0,false,x0) else (bif (decide (x0.2.1≥((x0.1).length:Int))) then some (0,false,x0) else ((at? x0.1 (IntKind.wrap .i64 ((IntKind.wrap .i64 (x0.2.1+1))-1))).bind fun e1=>some (e1,true,(x0.1,((IntKind.wrap .i64 (x0.2.1+1)),x0.2.2))))))
def yG7 (k:Nat):yAn:=zTv
def yAy:zE:=⟨[.lent (.pair (.slice (.int .u8)) (.pair (.int .i64) (.int .i64)))], [.imm (.int .u8), .imm .bool, .back (.pair (.slice (.int .u8)) (.pair (.int .i64) (.int .i64)))],fun k x=>yG7 k x⟩
def yJv:zV:=fun _=>none
def yM6:List (Nat×zE):= []
abbrev zWs:=((List Int)×Int×Int)→Int→Int→Option ((List Int)×Int×Int)
def zQ8:zWs:=fun x0 x1 x2=>(bif (x0.2.2==0) then some (x0.1,(x2,x1)) else some x0)
def yDi (k:Nat):zWs:=zQ8
def zXf:zE:=⟨[.lent (.pair (.slice (.int .u8)) (.pair (.int .i64) (.int .i64))), .imm (.int .i64), .imm (.int .i64)], [.back (.pair (.slice (.int .u8)) (.pair (.int .i64) (.int .i64)))],fun k x=>yDi k x.1 x.2.1 x.2.2⟩
def yFw:zV:=fun _=>none
def yLx:List (Nat×zE):= []
abbrev zA4:=Int→Int→Int→((List Int)×Int×Int)→Option ((Int×(List Int)×Int×Int)⊕(Int×(List Int)×Int×Int))
def jE (h0:yAn) (q:zA4):zA4:=fun v0 v1 v2 v3=>(bif (decide (v2<10)) then ((h0 v3).bind fun r1=>(bif (!r1.2.1) then some (.inl (v0,r1.2.2)) else (bif (v2==9) then (bif (decide ((IntKind.wrap .u64 (Int.tmod r1.1 128))>1)) then some (.inl (v0,r1.2.2)) else (bif decide (0≤(IntKind.wrap .u64 (IntKind.wrap .i64 (7*v2)))) then (bif (decide (r1.1<128)) then (bif (r1.1==0) then (bif (decide (v2>0)) then some (.inl (v0,r1.2.2)) else some (.inr ((xH .or .u64 v1 (zEh .u64 (IntKind.wrap .u64 (Int.tmod r1.1 128)) (IntKind.wrap .u64 (IntKind.wrap .i64 (7*v2))))),r1.2.2))) else some (.inr ((xH .or .u64 v1 (zEh .u64 (IntKind.wrap .u64 (Int.tmod r1.1 128)) (IntKind.wrap .u64 (IntKind.wrap .i64 (7*v2))))),r1.2.2))) else q v0 (xH .or .u64 v1 (zEh .u64 (IntKind.wrap .u64 (Int.tmod r1.1 128)) (IntKind.wrap .u64 (IntKind.wrap .i64 (7*v2))))) (IntKind.wrap .i64 (v2+1)) r1.2.2) else none)) else (bif decide (0≤(IntKind.wrap .u64 (IntKind.wrap .i64 (7*v2)))) then (bif (decide (r1.1<128)) then (bif (r1.1==0) then (bif (decide (v2>0)) then some (.inl (v0,r1.2.2)) else some (.inr ((xH .or .u64 v1 (zEh .u64 (IntKind.wrap .u64 (Int.tmod r1.1 128)) (IntKind.wrap .u64 (IntKind.wrap .i64 (7*v2))))),r1.2.2))) else some (.inr ((xH .or .u64 v1 (zEh .u64 (IntKind.wrap .u64 (Int.tmod r1.1 128)) (IntKind.wrap .u64 (IntKind.wrap .i64 (7*v2))))),r1.2.2))) else q v0 (xH .or .u64 v1 (zEh .u64 (IntKind.wrap .u64 (Int.tmod r1.1 128)) (IntKind.wrap .u64 (IntKind.wrap .i64 (7*v2))))) (IntKind.wrap .i64 (v2+1)) r1.2.2) else none)))) else some (.inl (v0,v3)))
def jO:Nat→zA4
 |0=>fun _ _ _ _=>none
 |k+1=>jE (yG7 k) (jO k)
def yN0:wV:=⟨⟨[(0, .ptr 1000000 0)], [.val 3 (.int .i64), .val 4 (.int .u64), .val 5 (.int .i64), .cells 1000000 [.dyn (.slice (.int .u8)), .dyn (.int .i64), .dyn (.int .i64)]]⟩, [(.exit 0,⟨[(0, .ptr 1000000 0)], [.val 3 (.int .i64), .cells 1000000 [.dyn (.slice (.int .u8)), .dyn (.int .i64), .dyn (.int .i64)]]⟩),(.ret,⟨[(0, .ptr 1000000 0)], [.val 2 (.int .u64), .cells 1000000 [.dyn (.slice (.int .u8)), .dyn (.int .i64), .dyn (.int .i64)]]⟩)],fun k x=>jO k x.1 x.2.1 x.2.2.1 x.2.2.2⟩
abbrev zEl:=((List Int)×Int×Int)→Option (Int×(List Int)×Int×Int)
def zJy (h0:zA4) (h1:zWs):zEl:=fun x0=>((h0 x0.2.1 0 0 x0).bind fun o2=>Sum.elim (fun a3=>((h1 a3.2 5 a3.1).bind fun r5=>some (0,r5))) (fun b4=>some b4) o2)
def zG9 (k:Nat):zEl:=zJy (jO k) (yDi k)
def zFj:zE:=⟨[.lent (.pair (.slice (.int .u8)) (.pair (.int .i64) (.int .i64)))], [.imm (.int .u64), .back (.pair (.slice (.int .u8)) (.pair (.int .i64) (.int .i64)))],fun k x=>zG9 k x⟩
def zUy:zV:=fun n=>cond (Nat.beq n 10) (some yN0) (none)
def zX2:List (Nat×zE):= [(147,yAy),(148,zXf)]
abbrev zF0:=Int→(List Int)→Option ((Int×List Int))
def zLg (q:zF0):zF0:=fun v0 v1=>(bif (decide (v0≥128)) then (bif yK ((v1++ [(IntKind.wrap .u8 ((IntKind.wrap .u8 (Int.tmod v0 128))+128))])).length 1 then q (IntKind.wrap .u64 (Int.tdiv v0 128)) (v1++ [(IntKind.wrap .u8 ((IntKind.wrap .u8 (Int.tmod v0 128))+128))]) else none) else some (v0,v1))
def zB1:Nat→zF0
 |0=>fun _ _=>none
 |k+1=>zLg (zB1 k)
def yY8:wV:=⟨⟨[(3, .sref 500001)], [.val 0 (.int .u64), .arr 500001 (.int .u8)]⟩, [(.exit 0,⟨[(3, .sref 500001)], [.val 0 (.int .u64), .arr 500001 (.int .u8)]⟩)],fun k x=>zB1 k x.1 x.2⟩
abbrev zDi:=Int→Option (List Int)
def zR7 (h0:zF0):zDi:=fun x0=>((h0 x0 []).bind fun o1=>(bif yK ((o1.2++ [(IntKind.wrap .u8 o1.1)])).length 1 then some (o1.2++ [(IntKind.wrap .u8 o1.1)]) else none))
def zG3 (k:Nat):zDi:=zR7 (zB1 k)
def zCo:zE:=⟨[.imm (.int .u64)], [.own (.int .u8)],fun k x=>zG3 k x⟩
def yBb:zV:=fun n=>cond (Nat.beq n 6) (some yY8) (none)
def yFo:List (Nat×zE):= []
abbrev zWd:=(List Int)→Option (Int×Bool)
def zQ0 (h0:zEl) (h1:zDi):zWd:=fun x0=>((h0 (x0,(0,0))).bind fun r1=>((h1 r1.1).bind fun r2=>some (r1.1,((xZ r2)==(xZ x0)))))
def yC3 (k:Nat):zWd:=zQ0 (zG9 k) (zG3 k)
def zWx:zE:=⟨[.imm (.slice (.int .u8))], [.imm (.int .u64), .imm .bool],fun k x=>yC3 k x⟩
def yGs:zV:=fun _=>none
def yLh:List (Nat×zE):= [(116,zFj),(56,zCo)]
abbrev zN7:=(List Int)→Int→Int→Int→Option (((List Int)×Int×Int))
def zOl (q:zN7):zN7:=fun v0 v1 v2 v3=>(bif (decide (v3<8)) then ((at? v0 v2).bind fun e1=>(bif decide (0≤(IntKind.wrap .u64 v3)) then (bif ((Int.tmod (xH .xor .u32 v1 (zB2 .u32 (IntKind.wrap .u32 e1) (IntKind.wrap .u64 v3))) 2)==1) then q v0 (xH .xor .u32 (IntKind.wrap .u32 (Int.tdiv v1 2)) 3988292384) v2 (IntKind.wrap .i64 (v3+1)) else q v0 (IntKind.wrap .u32 (Int.tdiv v1 2)) v2 (IntKind.wrap .i64 (v3+1))) else none)) else some (v0,v1,v2))
def zIr:Nat→zN7
 |0=>fun _ _ _ _=>none
 |k+1=>zOl (zIr k)
def xH4:wV:=⟨⟨[], [.val 0 (.slice (.int .u8)), .val 3 (.int .u32), .val 4 (.int .i64), .val 5 (.int .i64)]⟩, [(.exit 2,⟨[], [.val 0 (.slice (.int .u8)), .val 3 (.int .u32), .val 4 (.int .i64)]⟩)],fun k x=>zIr k x.1 x.2.1 x.2.2.1 x.2.2.2⟩
abbrev zQ3:=(List Int)→Int→Int→Option Int
def zQ1 (h0:zN7) (q:zQ3):zQ3:=fun v0 v1 v2=>(bif (decide (v2<((v0).length:Int))) then ((h0 v0 v1 v2 0).bind fun o2=>q o2.1 o2.2.1 (IntKind.wrap .i64 (o2.2.2+1))) else some v1)
def zMj:Nat→zQ3
 |0=>fun _ _ _=>none
 |k+1=>zQ1 (zIr k) (zMj k)
def xL1:wV:=⟨⟨[], [.val 0 (.slice (.int .u8)), .val 3 (.int .u32), .val 4 (.int .i64)]⟩, [(.exit 0,⟨[], [.val 3 (.int .u32)]⟩)],fun k x=>zMj k x.1 x.2.1 x.2.2⟩
abbrev yGx:=(List Int)→Option Int
def yHq (h0:zQ3):yGx:=fun x0=>((h0 x0 4294967295 0).bind fun o3=>some (xH .xor .u32 o3 4294967295))
def yQk (k:Nat):yGx:=yHq (zMj k)
def yE4:zE:=⟨[.imm (.slice (.int .u8))], [.imm (.int .u32)],fun k x=>yQk k x⟩
def yNf:zV:=fun n=>cond (Nat.beq n 20) (some xH4) (cond (Nat.beq n 8) (some xL1) (none))
def yT9:List (Nat×zE):= []
abbrev zTj:=(List Int)→Option (List Int)
def zZ3 (h0:yGx):zTj:=fun x0=>((h0 x0).bind fun r1=>(bif yK (([(IntKind.wrap .u8 (zB2 .u32 r1 24)),(IntKind.wrap .u8 (zB2 .u32 r1 16)),(IntKind.wrap .u8 (zB2 .u32 r1 8)),(IntKind.wrap .u8 r1)]++x0)).length 1 then some ([(IntKind.wrap .u8 (zB2 .u32 r1 24)),(IntKind.wrap .u8 (zB2 .u32 r1 16)),(IntKind.wrap .u8 (zB2 .u32 r1 8)),(IntKind.wrap .u8 r1)]++x0) else none))
def yAe (k:Nat):zTj:=zZ3 (yQk k)
def zR4:zE:=⟨[.imm (.slice (.int .u8))], [.own (.int .u8)],fun k x=>yAe k x⟩
def yIw:zV:=fun _=>none
def yNo:List (Nat×zE):= [(117,yE4)]
abbrev zI4:=(List Int)→Int→Option (Unit⊕Bool)
def zJk (q:zI4):zI4:=fun v0 v1=>(bif (decide (v1<((v0).length:Int))) then ((at? v0 v1).bind fun e1=>(bif (decide (e1<128)) then some (.inr false) else q v0 (IntKind.wrap .i64 (v1+1)))) else some (.inl ()))
def zEv:Nat→zI4
 |0=>fun _ _=>none
 |k+1=>zJk (zEv k)
def xDv:wV:=⟨⟨[], [.val 0 (.slice (.int .u8)), .val 3 (.int .i64)]⟩, [(.exit 0,⟨[], []⟩),(.ret,⟨[], [.val 2 .bool]⟩)],fun k x=>zEv k x.1 x.2⟩
abbrev zZd:=(List Int)→Option Bool
def yA2 (h0:zI4):zZd:=fun x0=>(bif (decide (((x0).length:Int)>2)) then some false else ((h0 x0 0).bind fun o2=>Sum.elim (fun a3=>some true) (fun b4=>some b4) o2))
def yHh (k:Nat):zZd:=yA2 (zEv k)
def zYp:zE:=⟨[.imm (.slice (.int .u8))], [.imm .bool],fun k x=>yHh k x⟩
def yJ2:zV:=fun n=>cond (Nat.beq n 14) (some xDv) (none)
def yN5:List (Nat×zE):= []
abbrev zLf:=(List Int)→Int→Int→Option (((List Int)×Int)⊕(Int×Int×Int×List Int))
def zKm (h0:zWd) (h1:zTj) (q:zLf):zLf:=fun v0 v1 v2=>(bif (decide (v1≤((v0).length:Int))) then (bif (decide (v1≤10)) then (bif (true&&decide ((0:Int)≤v1)&&decide (v1≤((v0).length:Int))) then ((h0 (cut v0 0 v1)).bind fun r1=>(bif (!r1.2) then q v0 (IntKind.wrap .i64 (v1+1)) v2 else (bif (decide (r1.1<5)) then some (.inr (0,5,0, [])) else (bif (decide (r1.1>1048576)) then some (.inr (0,5,0, [])) else (bif (decide ((IntKind.wrap .u64 (IntKind.wrap .i64 (((v0).length:Int)-v1)))<r1.1)) then some (.inr (0,12,0, [])) else (bif (decide ((0:Int)≤v1)&&decide (v1≤(IntKind.wrap .i64 (v1+(IntKind.wrap .i64 r1.1))))&&decide ((IntKind.wrap .i64 (v1+(IntKind.wrap .i64 r1.1)))≤((v0).length:Int))) then (bif (true&&decide ((4:Int)≤(((cut v0 v1 (IntKind.wrap .i64 (v1+(IntKind.wrap .i64 r1.1))))).length:Int))&&decide ((((cut v0 v1 (IntKind.wrap .i64 (v1+(IntKind.wrap .i64 r1.1))))).length:Int)≤(((cut v0 v1 (IntKind.wrap .i64 (v1+(IntKind.wrap .i64 r1.1))))).length:Int))) then ((h1 (cut (cut v0 v1 (IntKind.wrap .i64 (v1+(IntKind.wrap .i64 r1.1)))) 4 (((cut v0 v1 (IntKind.wrap .i64 (v1+(IntKind.wrap .i64 r1.1))))).length:Int))).bind fun r2=>(bif (!((xZ r2)==(xZ (cut v0 v1 (IntKind.wrap .i64 (v1+(IntKind.wrap .i64 r1.1))))))) then some (.inr (0,5,0, [])) else ((at? (cut v0 v1 (IntKind.wrap .i64 (v1+(IntKind.wrap .i64 r1.1)))) 4).bind fun e3=>(bif (true&&decide ((5:Int)≤(((cut v0 v1 (IntKind.wrap .i64 (v1+(IntKind.wrap .i64 r1.1))))).length:Int))&&decide ((((cut v0 v1 (IntKind.wrap .i64 (v1+(IntKind.wrap .i64 r1.1))))).length:Int)≤(((cut v0 v1 (IntKind.wrap .i64 (v1+(IntKind.wrap .i64 r1.1))))).length:Int))) then (bif yK (([]++(cut (cut v0 v1 (IntKind.wrap .i64 (v1+(IntKind.wrap .i64 r1.1)))) 5 (((cut v0 v1 (IntKind.wrap .i64 (v1+(IntKind.wrap .i64 r1.1))))).length:Int)))).length 1 then some (.inr ((IntKind.wrap .i64 (v1+(IntKind.wrap .i64 r1.1))),0,e3,([]++(cut (cut v0 v1 (IntKind.wrap .i64 (v1+(IntKind.wrap .i64 r1.1)))) 5 (((cut v0 v1 (IntKind.wrap .i64 (v1+(IntKind.wrap .i64 r1.1))))).length:Int))))) else none) else none)))) else none) else none)))))) else none) else some (.inl (v0,v2))) else some (.inl (v0,v2)))
def zG1:Nat→zLf
 |0=>fun _ _ _=>none
 |k+1=>zKm (yC3 k) (yAe k) (zG1 k)
def xG0:wV:=⟨⟨[(2, .ptr 500000 0)], [.val 0 (.slice (.int .u8)), .val 5 (.int .i64), .cells 500000 [.dyn (.int .u8), .stat (.nils)]]⟩, [(.exit 0,⟨[(2, .ptr 500000 0)], [.val 0 (.slice (.int .u8)), .cells 500000 [.dyn (.int .u8), .stat (.nils)]]⟩),(.ret,⟨[(2, .ptr 500000 0)], [.val 3 (.int .i64), .val 4 (.int .i64), .cells 500000 [.dyn (.int .u8), .stat (.sref 500001)], .arr 500001 (.int .u8)]⟩)],fun k x=>zG1 k x.1 x.2.1 x.2.2⟩
abbrev zZo:=(List Int)→Option ((Int×List Int)×Int×Int)
def yAb (h0:zLf) (h1:zZd):zZo:=fun x0=>((h0 x0 1 0).bind fun o4=>Sum.elim (fun a5=>((h1 a5.1).bind fun r7=>(bif r7 then some ((0, []),0,12) else some ((0, []),0,5)))) (fun b6=>some (b6.2.2,b6.1,b6.2.1)) o4)
def yHp (k:Nat):zZo:=yAb (zG1 k) (yHh k)
def zY5:zE:=⟨[.imm (.slice (.int .u8))], [.agg (.pair (.int .u8) (.slice (.int .u8))), .imm (.int .i64), .imm (.int .i64)],fun k x=>yHp k x⟩
def yKa:zV:=fun n=>cond (Nat.beq n 6) (some xG0) (none)
def yM3:List (Nat×zE):= [(145,zWx),(86,zR4),(146,zYp)]
abbrev zLc:=Int→Int→Int→(Int×List Int)→Option (Int⊕(Int×Int×List Int))
def zSb (h0:zEl) (h1:zDi) (q:zLc):zLc:=fun v0 v1 v2 v3=>(bif (decide (v1≤((v3.2).length:Int))) then (bif (decide (v1≤10)) then (bif (true&&decide ((0:Int)≤v1)&&decide (v1≤((v3.2).length:Int))) then ((h0 ((cut v3.2 0 v1),(0,0))).bind fun r2=>((h1 r2.1).bind fun r3=>(bif (true&&decide ((0:Int)≤v1)&&decide (v1≤((v3.2).length:Int))) then (bif ((xZ r3)==(xZ (cut v3.2 0 v1))) then (bif (r2.1==0) then some (.inr (0,(0, []))) else (bif (decide ((IntKind.wrap .i64 (((v3.2).length:Int)-v1))>4096)) then some (.inr (0,(0, []))) else (bif (decide ((0:Int)≤v1)&&decide (v1≤((v3.2).length:Int))&&decide (((v3.2).length:Int)≤((v3.2).length:Int))) then some (.inr (v0,(r2.1,(cut v3.2 v1 ((v3.2).length:Int))))) else none))) else q v0 (IntKind.wrap .i64 (v1+1)) v2 v3) else none))) else none) else some (.inl v2)) else some (.inl v2))
def zG7:Nat→zLc
 |0=>fun _ _ _ _=>none
 |k+1=>zSb (zG9 k) (zG3 k) (zG7 k)
def xG2:wV:=⟨⟨[(2, .ptr 500000 0),(4, .ptr 500001 0)], [.val 5 (.int .i64), .val 7 (.int .i64), .cells 500000 [.dyn (.int .u64), .stat (.nils)], .cells 500001 [.dyn (.int .u8), .dyn (.slice (.int .u8))]]⟩, [(.exit 0,⟨[(2, .ptr 500000 0)], [.cells 500000 [.dyn (.int .u64), .stat (.nils)]]⟩),(.ret,⟨[(2, .ptr 500000 0)], [.val 3 (.int .i64), .cells 500000 [.dyn (.int .u64), .dyn (.slice (.int .u8))]]⟩)],fun k x=>zG7 k x.1 x.2.1 x.2.2.1 x.2.2.2⟩
abbrev yC1:=(List Int)→Option ((Int×List Int)×Int)
def zVq (h0:zZo) (h1:zLc):yC1:=fun x0=>((h0 x0).bind fun r1=>(bif (r1.2.2 !=0) then some ((0, []),0) else (bif (r1.1.1 !=1) then some ((0, []),0) else ((h1 r1.2.1 1 0 r1.1).bind fun o4=>Sum.elim (fun a5=>some ((0, []),0)) (fun b6=>some (b6.2,b6.1)) o4))))
def yKq (k:Nat):yC1:=zVq (yHp k) (zG7 k)
def yB9:zE:=⟨[.imm (.slice (.int .u8))], [.agg (.pair (.int .u64) (.slice (.int .u8))), .imm (.int .i64)],fun k x=>yKq k x⟩
def yL2:zV:=fun n=>cond (Nat.beq n 16) (some xG2) (none)
def yRc:List (Nat×zE):= [(115,zY5),(116,zFj),(56,zCo)]
abbrev zC9:=(List ((List UInt8)×(List Int)×Int))→Int→Int→Int→Int→(List (Int×(List (Int×List Int))×List Int))→Int→(List (Int×List Int))→(List Int)→Option (((List ((List UInt8)×(List Int)×Int))×Int×Int×Int×(List (Int×(List (Int×List Int))×List Int))×Int×(List (Int×List Int))×List Int)⊕(List (Int×(List (Int×List Int))×List Int)))
def zDm (h0:yC1) (q:zC9):zC9:=fun v0 v1 v2 v3 v4 v5 v6 v7 v8=>((at? v0 v3).bind fun e3=>(bif (decide (v4<((e3.2.1).length:Int))) then ((at? v0 v3).bind fun e4=>(bif (decide ((0:Int)≤v4)&&decide (v4≤((e4.2.1).length:Int))&&decide (((e4.2.1).length:Int)≤((e4.2.1).length:Int))) then ((h0 (cut e4.2.1 v4 ((e4.2.1).length:Int))).bind fun r5=>(bif (r5.2==0) then (bif yK ((v5++ [(v6,(v7,v8))])).length 56 then some (.inr (v5++ [(v6,(v7,v8))])) else none) else (bif (v1 !=0) then (bif (r5.1.1 !=v1) then (bif yK ((v5++ [(v6,(v7,v8))])).length 56 then some (.inr (v5++ [(v6,(v7,v8))])) else none) else (bif yK ((v7++ [r5.1])).length 32 then (bif yK ((v8++ [(IntKind.wrap .i64 (v4+r5.2))])).length 8 then (bif ((IntKind.wrap .u64 (r5.1.1+1))==0) then (bif yK ((v5++([(v6,((v7++ [r5.1]),(v8++ [(IntKind.wrap .i64 (v4+r5.2))])))]))).length 56 then some (.inr (v5++([(v6,((v7++ [r5.1]),(v8++ [(IntKind.wrap .i64 (v4+r5.2))])))]))) else none) else q v0 (IntKind.wrap .u64 (r5.1.1+1)) v2 v3 (IntKind.wrap .i64 (v4+r5.2)) v5 v6 (v7++ [r5.1]) (v8++ [(IntKind.wrap .i64 (v4+r5.2))])) else none) else none)) else (bif yK ((v7++ [r5.1])).length 32 then (bif yK ((v8++ [(IntKind.wrap .i64 (v4+r5.2))])).length 8 then (bif ((IntKind.wrap .u64 (r5.1.1+1))==0) then (bif yK ((v5++([(v6,((v7++ [r5.1]),(v8++ [(IntKind.wrap .i64 (v4+r5.2))])))]))).length 56 then some (.inr (v5++([(v6,((v7++ [r5.1]),(v8++ [(IntKind.wrap .i64 (v4+r5.2))])))]))) else none) else q v0 (IntKind.wrap .u64 (r5.1.1+1)) v2 v3 (IntKind.wrap .i64 (v4+r5.2)) v5 v6 (v7++ [r5.1]) (v8++ [(IntKind.wrap .i64 (v4+r5.2))])) else none) else none)))) else none)) else some (.inl (v0,v1,v2,v3,v5,v6,v7,v8))))
def zAg:Nat→zC9
 |0=>fun _ _ _ _ _ _ _ _ _=>none
 |k+1=>zDm (yKq k) (zAg k)
def yTr:wV:=⟨⟨[(3, .sref 500000),(8, .ptr 500001 0)], [.val 0 (.slice (.pair .str (.pair (.slice (.int .u8)) (.int .i64)))), .val 4 (.int .u64), .val 5 (.int .i64), .val 6 (.int .i64), .val 9 (.int .i64), .arr 500000 (.pair (.int .i64) (.pair (.slice (.pair (.int .u64) (.slice (.int .u8)))) (.slice (.int .i64)))), .cells 500001 [.dyn (.int .i64), .stat (.sref 500002), .stat (.sref 500003)], .arr 500002 (.pair (.int .u64) (.slice (.int .u8))), .arr 500003 (.int .i64)]⟩, [(.exit 2,⟨[(3, .sref 500000),(8, .ptr 500001 0)], [.val 0 (.slice (.pair .str (.pair (.slice (.int .u8)) (.int .i64)))), .val 4 (.int .u64), .val 5 (.int .i64), .val 6 (.int .i64), .arr 500000 (.pair (.int .i64) (.pair (.slice (.pair (.int .u64) (.slice (.int .u8)))) (.slice (.int .i64)))), .cells 500001 [.dyn (.int .i64), .stat (.sref 500002), .stat (.sref 500003)], .arr 500002 (.pair (.int .u64) (.slice (.int .u8))), .arr 500003 (.int .i64)]⟩),(.ret,⟨[(2, .sref 500000)], [.arr 500000 (.pair (.int .i64) (.pair (.slice (.pair (.int .u64) (.slice (.int .u8)))) (.slice (.int .i64))))]⟩)],fun k x=>zAg k x.1 x.2.1 x.2.2.1 x.2.2.2.1 x.2.2.2.2.1 x.2.2.2.2.2.1 x.2.2.2.2.2.2.1 x.2.2.2.2.2.2.2.1 x.2.2.2.2.2.2.2.2⟩
abbrev zDp:=(List ((List UInt8)×(List Int)×Int))→Int→Int→Int→(List (Int×(List (Int×List Int))×List Int))→Option ((List (Int×(List (Int×List Int))×List Int))⊕(List (Int×(List (Int×List Int))×List Int)))
def zDc (h0:zEx) (h1:zC9) (q:zDp):zDp:=fun v0 v1 v2 v3 v4=>(bif (decide (v3<((v0).length:Int))) then ((at? v0 v3).bind fun e1=>((h0 e1.1).bind fun r2=>(bif (r2==0) then q v0 v1 v2 (IntKind.wrap .i64 (v3+1)) v4 else (bif (decide (v2>0)) then (bif (r2 !=(IntKind.wrap .i64 (v2+1))) then some (.inr v4) else ((h1 v0 v1 r2 v3 0 v4 v3 [] []).bind fun o6=>Sum.elim (fun a7=>(bif yK ((a7.2.2.2.2.1++ [a7.2.2.2.2.2])).length 56 then q a7.1 a7.2.1 a7.2.2.1 (IntKind.wrap .i64 (a7.2.2.2.1+1)) (a7.2.2.2.2.1++ [a7.2.2.2.2.2]) else none)) (fun b8=>some (.inr b8)) o6)) else ((h1 v0 v1 r2 v3 0 v4 v3 [] []).bind fun o9=>Sum.elim (fun a10=>(bif yK ((a10.2.2.2.2.1++ [a10.2.2.2.2.2])).length 56 then q a10.1 a10.2.1 a10.2.2.1 (IntKind.wrap .i64 (a10.2.2.2.1+1)) (a10.2.2.2.2.1++ [a10.2.2.2.2.2]) else none)) (fun b11=>some (.inr b11)) o9))))) else some (.inl v4))
def zAp:Nat→zDp
 |0=>fun _ _ _ _ _=>none
 |k+1=>zDc (zJa k) (zAg k) (zAp k)
def ySv:wV:=⟨⟨[(3, .sref 500000)], [.val 0 (.slice (.pair .str (.pair (.slice (.int .u8)) (.int .i64)))), .val 4 (.int .u64), .val 5 (.int .i64), .val 6 (.int .i64), .arr 500000 (.pair (.int .i64) (.pair (.slice (.pair (.int .u64) (.slice (.int .u8)))) (.slice (.int .i64))))]⟩, [(.exit 0,⟨[(3, .sref 500000)], [.arr 500000 (.pair (.int .i64) (.pair (.slice (.pair (.int .u64) (.slice (.int .u8)))) (.slice (.int .i64))))]⟩),(.ret,⟨[(2, .sref 500000)], [.arr 500000 (.pair (.int .i64) (.pair (.slice (.pair (.int .u64) (.slice (.int .u8)))) (.slice (.int .i64))))]⟩)],fun k x=>zAp k x.1 x.2.1 x.2.2.1 x.2.2.2.1 x.2.2.2.2⟩
abbrev kF:=(List ((List UInt8)×(List Int)×Int))→Option (List (Int×(List (Int×List Int))×List Int))
def zPj (h0:zDp):kF:=fun x0=>((h0 x0 0 0 0 []).bind fun o12=>Sum.elim (fun a13=>some a13) (fun b14=>some b14) o12)
def zAt (k:Nat):kF:=zPj (zAp k)
def jM:zE:=⟨[.imm (.slice (.pair .str (.pair (.slice (.int .u8)) (.int .i64))))], [.own (.pair (.int .i64) (.pair (.slice (.pair (.int .u64) (.slice (.int .u8)))) (.slice (.int .i64))))],fun k x=>zAt k x⟩
def zYk:zV:=fun n=>cond (Nat.beq n 45) (some yTr) (cond (Nat.beq n 12) (some ySv) (none))
def yEv:List (Nat×zE):= [(50,zHn),(81,yB9)]
abbrev zI5:=(List ((List UInt8)×(List Int)×Int))→(List UInt8)→Int→Option (Unit⊕Int)
def zIu (q:zI5):zI5:=fun v0 v1 v2=>(bif (decide (v2<((v0).length:Int))) then ((at? v0 v2).bind fun e1=>(bif (e1.1==v1) then some (.inr v2) else q v0 v1 (IntKind.wrap .i64 (v2+1)))) else some (.inl ()))
def zFb:Nat→zI5
 |0=>fun _ _ _=>none
 |k+1=>zIu (zFb k)
def xC4:wV:=⟨⟨[], [.val 0 (.slice (.pair .str (.pair (.slice (.int .u8)) (.int .i64)))), .val 1 .str, .val 5 (.int .i64)]⟩, [(.exit 0,⟨[], []⟩),(.ret,⟨[], [.val 4 (.int .i64)]⟩)],fun k x=>zFb k x.1 x.2.1 x.2.2⟩
abbrev zG0:=(List ((List UInt8)×(List Int)×Int))→(List UInt8)→Option Int
def zWo (h0:zI5):zG0:=fun x0 x1=>((h0 x0 x1 0).bind fun o2=>Sum.elim (fun a3=>some (-1)) (fun b4=>some b4) o2)
def zM2 (k:Nat):zG0:=zWo (zFb k)
def zE7:zE:=⟨[.imm (.slice (.pair .str (.pair (.slice (.int .u8)) (.int .i64)))), .imm .str], [.imm (.int .i64)],fun k x=>zM2 k x.1 x.2⟩
def yGe:zV:=fun n=>cond (Nat.beq n 6) (some xC4) (none)
def yLj:List (Nat×zE):= []
abbrev zLv:=(List ((List UInt8)×(List Int)×Int))→Bool→Int→((List UInt8)×(List Int)×Int)→(List ((List UInt8)×(List Int)×Int))→Option ((Bool×((List UInt8)×(List Int)×Int)×List ((List UInt8)×(List Int)×Int)))
def zK5 (q:zLv):zLv:=fun v0 v1 v2 v3 v4=>(bif (decide (v2<((v0).length:Int))) then (bif (!v1) then ((at? v0 v2).bind fun e1=>(bif (!xD e1.1 v3.1) then (bif yK ((v4++ [v3])).length 48 then ((at? v0 v2).bind fun e2=>(bif (!(e2.1==v3.1)) then ((at? v0 v2).bind fun e3=>(bif yK (((v4++ [v3])++ [e3])).length 48 then q v0 true (IntKind.wrap .i64 (v2+1)) v3 ((v4++ [v3])++ [e3]) else none)) else q v0 true (IntKind.wrap .i64 (v2+1)) v3 (v4++ [v3]))) else none) else ((at? v0 v2).bind fun e4=>(bif (!(e4.1==v3.1)) then ((at? v0 v2).bind fun e5=>(bif yK ((v4++ [e5])).length 48 then q v0 v1 (IntKind.wrap .i64 (v2+1)) v3 (v4++ [e5]) else none)) else q v0 v1 (IntKind.wrap .i64 (v2+1)) v3 v4)))) else ((at? v0 v2).bind fun e6=>(bif (!(e6.1==v3.1)) then ((at? v0 v2).bind fun e7=>(bif yK ((v4++ [e7])).length 48 then q v0 v1 (IntKind.wrap .i64 (v2+1)) v3 (v4++ [e7]) else none)) else q v0 v1 (IntKind.wrap .i64 (v2+1)) v3 v4))) else some (v1,v3,v4))
def zGt:Nat→zLv
 |0=>fun _ _ _ _ _=>none
 |k+1=>zK5 (zGt k)
def xG3:wV:=⟨⟨[(3, .ptr 500000 0),(5, .sref 500001)], [.val 0 (.slice (.pair .str (.pair (.slice (.int .u8)) (.int .i64)))), .val 6 .bool, .val 7 (.int .i64), .cells 500000 [.dyn .str, .dyn (.slice (.int .u8)), .dyn (.int .i64)], .arr 500001 (.pair .str (.pair (.slice (.int .u8)) (.int .i64)))]⟩, [(.exit 0,⟨[(3, .ptr 500000 0),(5, .sref 500001)], [.val 6 .bool, .cells 500000 [.dyn .str, .dyn (.slice (.int .u8)), .dyn (.int .i64)], .arr 500001 (.pair .str (.pair (.slice (.int .u8)) (.int .i64)))]⟩)],fun k x=>zGt k x.1 x.2.1 x.2.2.1 x.2.2.2.1 x.2.2.2.2⟩
abbrev zRm:=(List ((List UInt8)×(List Int)×Int))→((List UInt8)×(List Int)×Int)→Option (List ((List UInt8)×(List Int)×Int))
def yC7 (h0:zLv):zRm:=fun x0 x1=>((h0 x0 false 0 x1 []).bind fun o8=>(bif (!o8.1) then (bif yK ((o8.2.2++ [o8.2.1])).length 48 then some (o8.2.2++ [o8.2.1]) else none) else some o8.2.2))
def zXs (k:Nat):zRm:=yC7 (zGt k)
def zOu:zE:=⟨[.imm (.slice (.pair .str (.pair (.slice (.int .u8)) (.int .i64)))), .agg (.pair .str (.pair (.slice (.int .u8)) (.int .i64)))], [.own (.pair .str (.pair (.slice (.int .u8)) (.int .i64)))],fun k x=>zXs k x.1 x.2⟩
def yLl:zV:=fun n=>cond (Nat.beq n 10) (some xG3) (none)
def yRp:List (Nat×zE):= []
abbrev zTc:=(List ((List UInt8)×(List Int)×Int))→(List UInt8)→Option ((List ((List UInt8)×(List Int)×Int))×Int)
def zYi (h0:zG0) (h1:zRm):zTc:=fun x0 x1=>((h0 x0 x1).bind fun r1=>(bif (decide (r1<0)) then some (x0,4) else ((at? x0 r1).bind fun e2=>((h1 x0 (e2.1,(e2.2.1,((e2.2.1).length:Int)))).bind fun r3=>some (r3,0)))))
def zZs (k:Nat):zTc:=zYi (zM2 k) (zXs k)
def zSk:zE:=⟨[.imm (.slice (.pair .str (.pair (.slice (.int .u8)) (.int .i64)))), .imm .str], [.imm (.slice (.pair .str (.pair (.slice (.int .u8)) (.int .i64)))), .imm (.int .i64)],fun k x=>zZs k x.1 x.2⟩
def yJd:zV:=fun _=>none
def yMy:List (Nat×zE):= [(82,zE7),(83,zOu)]
abbrev yA5:=(List ((List UInt8)×(List Int)×Int))→Option (List ((List UInt8)×(List Int)×Int))
def zSo (h0:kF) (h1:zTc):yA5:=fun x0=>((h0 x0).bind fun r1=>(bif (decide (((r1).length:Int)>0)) then (bif (decide (0≤(IntKind.wrap .i64 (((r1).length:Int)-1)))&&decide ((IntKind.wrap .i64 (((r1).length:Int)-1))<(r1).length)) then ((r1[Int.toNat (IntKind.wrap .i64 (((r1).length:Int)-1))]?).bind fun w2=>((at? x0 w2.1).bind fun e3=>((h1 x0 e3.1).bind fun r4=>some r4.1))) else none) else some x0))
def yHl (k:Nat):yA5:=zSo (zAt k) (zZs k)
def yAa:zE:=⟨[.imm (.slice (.pair .str (.pair (.slice (.int .u8)) (.int .i64))))], [.imm (.slice (.pair .str (.pair (.slice (.int .u8)) (.int .i64))))],fun k x=>yHl k x⟩
def yJi:zV:=fun _=>none
def yNz:List (Nat×zE):= [(45,jM),(46,zSk)]
abbrev zI6:=(List ((List UInt8)×(List Int)×Int))→(List ((List UInt8)×(List Int)×Int))→Int→Option (Unit⊕Bool)
def zIw (q:zI6):zI6:=fun v0 v1 v2=>(bif (decide (v2<((v0).length:Int))) then ((at? v0 v2).bind fun e1=>((at? v1 v2).bind fun e2=>(bif (!(e1.1==e2.1)) then some (.inr false) else ((at? v0 v2).bind fun e3=>((at? v1 v2).bind fun e4=>(bif (e3.2.2 !=e4.2.2) then some (.inr false) else ((at? v0 v2).bind fun e5=>((at? v1 v2).bind fun e6=>(bif (!((xZ e5.2.1)==(xZ e6.2.1))) then some (.inr false) else q v0 v1 (IntKind.wrap .i64 (v2+1))))))))))) else some (.inl ()))
def zEz:Nat→zI6
 |0=>fun _ _ _=>none
 |k+1=>zIw (zEz k)
def xDe:wV:=⟨⟨[], [.val 0 (.slice (.pair .str (.pair (.slice (.int .u8)) (.int .i64)))), .val 1 (.slice (.pair .str (.pair (.slice (.int .u8)) (.int .i64)))), .val 5 (.int .i64)]⟩, [(.exit 0,⟨[], []⟩),(.ret,⟨[], [.val 4 .bool]⟩)],fun k x=>zEz k x.1 x.2.1 x.2.2⟩
abbrev zZw:=(List ((List UInt8)×(List Int)×Int))→(List ((List UInt8)×(List Int)×Int))→Option Bool
def zY2 (h0:zI6):zZw:=fun x0 x1=>(bif (((x0).length:Int) !=((x1).length:Int)) then some false else ((h0 x0 x1 0).bind fun o7=>Sum.elim (fun a8=>some true) (fun b9=>some b9) o7))
def yHn (k:Nat):zZw:=zY2 (zEz k)
def yA0:zE:=⟨[.imm (.slice (.pair .str (.pair (.slice (.int .u8)) (.int .i64)))), .imm (.slice (.pair .str (.pair (.slice (.int .u8)) (.int .i64))))], [.imm .bool],fun k x=>yHn k x.1 x.2⟩
def yJh:zV:=fun n=>cond (Nat.beq n 14) (some xDe) (none)
def yNc:List (Nat×zE):= []
abbrev zI1:=Int→(List (Int×List Int))→(List (Int×(List (Int×List Int))×List Int))→Option ((List (Int×List Int)))
def zI8 (q:zI1):zI1:=fun v0 v1 v2=>(bif (decide (v0<((v2).length:Int))) then (bif (decide (0≤v0)&&decide (v0<(v2).length)) then ((v2[Int.toNat v0]?).bind fun w2=>(bif yK ((v1++w2.2.1)).length 32 then q (IntKind.wrap .i64 (v0+1)) (v1++w2.2.1) v2 else none)) else none) else some v1)
def zE2:Nat→zI1
 |0=>fun _ _ _=>none
 |k+1=>zI8 (zE2 k)
def xB5:wV:=⟨⟨[(3, .sref 500000),(4, .sref 500001)], [.val 5 (.int .i64), .arr 500000 (.pair (.int .u64) (.slice (.int .u8))), .arr 500001 (.pair (.int .i64) (.pair (.slice (.pair (.int .u64) (.slice (.int .u8)))) (.slice (.int .i64))))]⟩, [(.exit 0,⟨[(3, .sref 500000)], [.arr 500000 (.pair (.int .u64) (.slice (.int .u8)))]⟩)],fun k x=>zE2 k x.1 x.2.1 x.2.2⟩
abbrev zTr:=(List ((List UInt8)×(List Int)×Int))→Option (List (Int×List Int))
def zY0 (h0:kF) (h1:zI1):zTr:=fun x0=>((h0 x0).bind fun r1=>((h1 0 [] r1).bind fun o3=>some o3))
def yAm (k:Nat):zTr:=zY0 (zAt k) (zE2 k)
def zRy:zE:=⟨[.imm (.slice (.pair .str (.pair (.slice (.int .u8)) (.int .i64))))], [.own (.pair (.int .u64) (.slice (.int .u8)))],fun k x=>yAm k x⟩
def yJ5:zV:=fun n=>cond (Nat.beq n 10) (some xB5) (none)
def yOs:List (Nat×zE):= [(45,jM)]
abbrev zQf:=(Option SG)→Int→Option Bool
def zP0 (h0:zCt):zQf:=fun x0 x1=>((x0).bind fun w1=>(bif (decide (((w1.2.2.1).length:Int)>0)) then ((x0).bind fun w2=>(bif (decide (x1≥w2.2.1)) then ((x0).bind fun w3=>((h0 w3).bind fun r4=>some (decide (x1≤r4)))) else some false)) else some false))
def zUh (k:Nat):zQf:=zP0 (zFa k)
def zRt:zE:=⟨[.imm (.opt sgT), .ro (.int .u64)], [.imm .bool],fun k x=>zUh k x.1 x.2⟩
def zYn:zV:=fun _=>none
def yDx:List (Nat×zE):= [(41,zCn)]
abbrev zIk:=(Bool×List (Option SG))→Int→Option Int
def zUf (h0:zD0) (h1:wD) (h2:zQf):zIk:=fun x0 x1=>((h0 x0).bind fun r1=>(bif (!r1) then some (-1) else ((h1 x0.2 (fun y2=>((h2 y2 x1).bind fun z=>some z))).bind fun r3=>some r3)))
def zOe (k:Nat):zIk:=zUf (zHy k) (yH k) (zUh k)
def zHa:zE:=⟨[.ro (.pair .pb (.slice (.opt sgT))), .imm (.int .u64)], [.imm (.int .i64)],fun k x=>zOe k x.1 x.2⟩
def yDr:zV:=fun _=>none
def yIh:List (Nat×zE):= [(35,zBj),(70,wT),(71,zRt)]
abbrev zKd:=(Bool×List (Option SG))→Int→Option ((List Int)×Bool)
def zQm (h0:zIk) (h1:xV):zKd:=fun x0 x1=>((h0 x0 x1).bind fun r1=>(bif (decide (r1<0)) then some ([],false) else ((at? x0.2 r1).bind fun e2=>((e2).bind fun w3=>((e2).bind fun w4=>((at? w3.2.2.2 (IntKind.wrap .u64 (x1-w4.2.1))).bind fun e5=>((h1 e5).bind fun r6=>some (r6,true))))))))
def zRf (k:Nat):zKd:=zQm (zOe k) (xU k)
def zP4:zE:=⟨[.ro (.pair .pb (.slice (.opt sgT))), .imm (.int .u64)], [.own (.int .u8), .imm .bool],fun k x=>zRf k x.1 x.2⟩
def yF3:zV:=fun _=>none
def yKp:List (Nat×zE):= [(37,zHa),(39,wK)]
abbrev zL4:=(Bool×List (Option SG))→Option Int
def zR8 (h0:zOt):zL4:=fun x0=>((h0 x0).bind fun r1=>(bif (((r1).length:Int)==0) then some 0 else (bif (decide (0≤(0:Int))&&decide ((0:Int)<(r1).length)) then ((r1[Int.toNat 0]?).bind fun w2=>((w2).bind fun w3=>some w3.2.1)) else none)))
def zRa (k:Nat):zL4:=zR8 (zTu k)
def zKt:zE:=⟨[.ro (.pair .pb (.slice (.opt sgT)))], [.imm (.int .u64)],fun k x=>zRa k x⟩
def yBv:zV:=fun _=>none
def yF1:List (Nat×zE):= [(40,zNc)]
abbrev zOz:=(Bool×List (Option SG))→Int→Int→Int→Unit→(List (Int×List Int))→FL→Option (((Bool×List (Option SG))×Int×Int×Unit×FL)⊕(Bool×Unit×FL))
def zOj (h0:zKd) (q:zOz):zOz:=fun v0 v1 v2 v3 v4 v5 v6=>(bif (decide (v3<((v5).length:Int))) then (bif (decide (0≤v3)&&decide (v3<(v5).length)) then ((v5[Int.toNat v3]?).bind fun w6=>((h0 v0 w6.1).bind fun r7=>(bif (!r7.2) then some (.inr (false,(),v6)) else (bif (decide (0≤v3)&&decide (v3<(v5).length)) then ((v5[Int.toNat v3]?).bind fun w8=>(bif (!((xZ r7.1)==(xZ w8.2))) then some (.inr (false,(),v6)) else q v0 v1 v2 (IntKind.wrap .i64 (v3+1)) () v5 v6)) else none)))) else none) else some (.inl (v0,v1,v2,(),v6)))
def zIs:Nat→zOz
 |0=>fun _ _ _ _ _ _ _=>none
 |k+1=>zOj (zRf k) (zIs k)
def xHp:wV:=⟨⟨[(1, .ptr 2000001 0),(7, .sref 500000)], [.eptr 0 (.pair .pb (.slice (.opt sgT))) 0, .val 8 (.int .u64), .val 9 (.int .u64), .val 10 (.int .i64), .cells 2000001 [.stat (.mref 1000001)], .arr 500000 (.pair (.int .u64) (.slice (.int .u8))), .pm 1000001]⟩, [(.exit 0,⟨[(1, .ptr 2000001 0)], [.eptr 0 (.pair .pb (.slice (.opt sgT))) 0, .val 8 (.int .u64), .val 9 (.int .u64), .cells 2000001 [.stat (.mref 1000001)], .pm 1000001]⟩),(.ret,⟨[(1, .ptr 2000001 0)], [.val 6 .bool, .cells 2000001 [.stat (.mref 1000001)], .pm 1000001]⟩)],fun k x=>zIs k x.1 x.2.1 x.2.2.1 x.2.2.2.1 x.2.2.2.2.1 x.2.2.2.2.2.1 x.2.2.2.2.2.2⟩
abbrev yHa:=(Bool×List (Option SG))→FL→(List ((List UInt8)×(List Int)×Int))→Option (Bool×FL)
def yHo (h0:zHr) (h1:zZw) (h2:zTr) (h3:zOz) (h4:zKd) (h5:zL4) (h6:zFc):yHa:=fun x0 x1 x2=>((h0 x1).bind fun r1=>((h1 r1.1 x2).bind fun r2=>(bif (!r2) then some (false,r1.2) else ((h2 x2).bind fun r3=>(bif (decide (((r3).length:Int)>0)) then (bif (decide (0≤(0:Int))&&decide ((0:Int)<(r3).length)) then ((r3[Int.toNat 0]?).bind fun w4=>(bif (decide (0≤(IntKind.wrap .i64 (((r3).length:Int)-1)))&&decide ((IntKind.wrap .i64 (((r3).length:Int)-1))<(r3).length)) then ((r3[Int.toNat (IntKind.wrap .i64 (((r3).length:Int)-1))]?).bind fun w5=>((h3 x0 w4.1 w5.1 0 () r3 r1.2).bind fun o9=>Sum.elim (fun a10=>((h4 a10.1 (IntKind.wrap .u64 (a10.2.2.1+1))).bind fun r12=>((h4 a10.1 0).bind fun r13=>((h5 a10.1).bind fun r14=>(bif (r14==a10.2.1) then ((h6 a10.1).bind fun r15=>(bif (r15==a10.2.2.1) then (bif (!r12.2) then some ((!r13.2),a10.2.2.2.2) else some (false,a10.2.2.2.2)) else some (false,a10.2.2.2.2))) else some (false,a10.2.2.2.2)))))) (fun b11=>some (b11.1,b11.2.2)) o9)) else none)) else none) else ((h3 x0 0 0 0 () r3 r1.2).bind fun o16=>Sum.elim (fun a17=>((h4 a17.1 (IntKind.wrap .u64 (a17.2.2.1+1))).bind fun r19=>((h4 a17.1 0).bind fun r20=>((h5 a17.1).bind fun r21=>(bif (r21==a17.2.1) then ((h6 a17.1).bind fun r22=>(bif (r22==a17.2.2.1) then (bif (!r19.2) then some ((!r20.2),a17.2.2.2.2) else some (false,a17.2.2.2.2)) else some (false,a17.2.2.2.2))) else some (false,a17.2.2.2.2)))))) (fun b18=>some (b18.1,b18.2.2)) o16))))))
def yP2 (k:Nat):yHa:=yHo (zKj k) (yHn k) (yAm k) (zIs k) (zRf k) (zRa k) (zJw k)
def yFg:zE:=⟨[.ro (.pair .pb (.slice (.opt sgT))), .disk, .imm (.slice (.pair .str (.pair (.slice (.int .u8)) (.int .i64))))], [.imm .bool, .backd],fun k x=>yP2 k x.1 x.2.1 x.2.2⟩
def yOb:zV:=fun n=>cond (Nat.beq n 24) (some xHp) (none)
def yTg:List (Nat×zE):= [(27,zH5),(57,yA0),(53,zRy),(12,zP4),(25,zKt),(13,zD4)]
abbrev zCu:=Int→Int→Unit→Unit→(List SG)→FL→Option ((Int×Int×Unit×Unit×(List SG)×FL))
def zCk (h0:zHx) (h1:zFw) (q:zCu):zCu:=fun v0 v1 v2 v3 v4 v5=>(bif (decide (((v4).length:Int)>(IntKind.wrap .i64 (v1+1)))) then (bif Nat.ble (v4).length 4611686018427387904 then (bif (Nat.beq (v4).length 0) then none else ((v4[(v4).length-1]?).bind fun w3=>((h0 w3.1).bind fun r4=>((h1 v5 r4).bind fun r5=>(bif (true&&decide ((0:Int)≤(IntKind.wrap .i64 (((v4).length:Int)-1)))&&decide ((IntKind.wrap .i64 (((v4).length:Int)-1))≤(((v4.set ((v4).length-1) w3)).length:Int))) then q v0 v1 () () (cut (v4.set ((v4).length-1) w3) 0 (IntKind.wrap .i64 (((v4).length:Int)-1))) r5.2 else none))))) else none) else some (v0,v1,(),(),v4,v5))
def kT:Nat→zCu
 |0=>fun _ _ _ _ _ _=>none
 |k+1=>zCk (zPn k) (zE6 k) (kT k)
def ySl:wV:=⟨⟨[(0, .ptr 3000000 0)], [.val 1 (.int .u64), .val 5 (.int .i64), .cells 3000000 [.stat (.ptr 2000000 0), .stat (.dref 500000)], .cells 2000000 [.stat (.mref 1000000)], .segs 500000, .pm 1000000]⟩, [(.exit 0,⟨[(0, .ptr 3000000 0)], [.val 1 (.int .u64), .val 5 (.int .i64), .cells 3000000 [.stat (.ptr 2000000 0), .stat (.dref 500000)], .cells 2000000 [.stat (.mref 1000000)], .segs 500000, .pm 1000000]⟩)],fun k x=>kT k x.1 x.2.1 x.2.2.1 x.2.2.2.1 x.2.2.2.2.1 x.2.2.2.2.2⟩
abbrev zM7:=(FL×List SG)→Int→Option (Int×FL×List SG)
def zHp (h0:zD0) (h1:zIk) (h2:zCu) (h3:zHx) (h4:zCw) (h5:zL1):zM7:=fun x0 x1=>((h0 (true,(x0.2.map some))).bind fun r1=>(bif (!r1) then some (1,x0) else ((h1 (true,(x0.2.map some)) x1).bind fun r2=>(bif (decide (r2<0)) then some (4,x0) else ((h2 x1 r2 () () x0.2 x0.1).bind fun o6=>(bif (decide (0≤o6.2.1)&&decide (o6.2.1<(o6.2.2.2.2.1).length)) then ((o6.2.2.2.2.1[Int.toNat o6.2.1]?).bind fun w7=>(bif (decide ((0:Int)≤(IntKind.wrap .i64 (IntKind.wrap .u64 (o6.1-w7.2.1))))&&decide ((IntKind.wrap .i64 (IntKind.wrap .u64 (o6.1-w7.2.1)))≤((w7.2.2.1).length:Int))) then (bif (decide ((0:Int)≤(IntKind.wrap .i64 (IntKind.wrap .u64 (o6.1-w7.2.1))))&&decide ((IntKind.wrap .i64 (IntKind.wrap .u64 (o6.1-w7.2.1)))≤((w7.2.2.2).length:Int))) then ((h3 w7.1).bind fun r8=>((h4 (w7.1,(w7.2.1,((cut w7.2.2.1 0 (IntKind.wrap .i64 (IntKind.wrap .u64 (o6.1-w7.2.1)))),(cut w7.2.2.2 0 (IntKind.wrap .i64 (IntKind.wrap .u64 (o6.1-w7.2.1)))))))).bind fun r9=>((h5 o6.2.2.2.2.2 r8 r9).bind fun r10=>some (0,(r10.2,(o6.2.2.2.2.1.set (Int.toNat o6.2.1) (w7.1,w7.2.1,(cut w7.2.2.1 0 (IntKind.wrap .i64 (IntKind.wrap .u64 (o6.1-w7.2.1)))),(cut w7.2.2.2 0 (IntKind.wrap .i64 (IntKind.wrap .u64 (o6.1-w7.2.1))))))))))) else none) else none)) else none))))))
def zSg (k:Nat):zM7:=zHp (zHy k) (zOe k) (kT k) (zPn k) (zE5 k) (zQv k)
def zPl:zE:=⟨[.lento [.dsk, .segs], .imm (.int .u64)], [.imm (.int .i64), .backo [.dsk, .segs]],fun k x=>zSg k x.1 x.2⟩
def zX4:zV:=fun n=>cond (Nat.beq n 22) (some ySl) (none)
def yBe:List (Nat×zE):= [(35,zBj),(37,zHa),(36,zPz),(33,zG5),(31,zCi),(34,zCs),(32,zKo)]
abbrev zHb:=(List (Int×(List (Int×List Int))×List Int))→Int→Int→Int→Option (((List (Int×(List (Int×List Int))×List Int))×Int×Int)⊕(Int×Int))
def zHi (q:zHb):zHb:=fun v0 v1 v2 v3=>((at? v0 v2).bind fun e1=>(bif (decide (v3<((e1.2.1).length:Int))) then ((at? v0 v2).bind fun e2=>((at? e2.2.1 v3).bind fun e3=>(bif (e3.1==v1) then some (.inr (v2,v3)) else q v0 v1 v2 (IntKind.wrap .i64 (v3+1))))) else some (.inl (v0,v1,v2))))
def zC5:Nat→zHb
 |0=>fun _ _ _ _=>none
 |k+1=>zHi (zC5 k)
def xAe:wV:=⟨⟨[], [.val 0 (.slice (.pair (.int .i64) (.pair (.slice (.pair (.int .u64) (.slice (.int .u8)))) (.slice (.int .i64))))), .val 1 (.int .u64), .val 6 (.int .i64), .val 7 (.int .i64)]⟩, [(.exit 2,⟨[], [.val 0 (.slice (.pair (.int .i64) (.pair (.slice (.pair (.int .u64) (.slice (.int .u8)))) (.slice (.int .i64))))), .val 1 (.int .u64), .val 6 (.int .i64)]⟩),(.ret,⟨[], [.val 4 (.int .i64), .val 5 (.int .i64)]⟩)],fun k x=>zC5 k x.1 x.2.1 x.2.2.1 x.2.2.2⟩
abbrev zJc:=(List (Int×(List (Int×List Int))×List Int))→Int→Int→Option (Unit⊕(Int×Int))
def zB3 (h0:zHb) (q:zJc):zJc:=fun v0 v1 v2=>(bif (decide (v2<((v0).length:Int))) then ((h0 v0 v1 v2 0).bind fun o4=>Sum.elim (fun a5=>q a5.1 a5.2.1 (IntKind.wrap .i64 (a5.2.2+1))) (fun b6=>some (.inr b6)) o4) else some (.inl ()))
def zFf:Nat→zJc
 |0=>fun _ _ _=>none
 |k+1=>zB3 (zC5 k) (zFf k)
def xDg:wV:=⟨⟨[], [.val 0 (.slice (.pair (.int .i64) (.pair (.slice (.pair (.int .u64) (.slice (.int .u8)))) (.slice (.int .i64))))), .val 1 (.int .u64), .val 6 (.int .i64)]⟩, [(.exit 0,⟨[], []⟩),(.ret,⟨[], [.val 4 (.int .i64), .val 5 (.int .i64)]⟩)],fun k x=>zFf k x.1 x.2.1 x.2.2⟩
abbrev zQ9:=(List (Int×(List (Int×List Int))×List Int))→Int→Option (Int×Int)
def zGu (h0:zJc):zQ9:=fun x0 x1=>((h0 x0 x1 0).bind fun o7=>Sum.elim (fun a8=>some ((-1),0)) (fun b9=>some b9) o7)
def zV1 (k:Nat):zQ9:=zGu (zFf k)
def zPq:zE:=⟨[.imm (.slice (.pair (.int .i64) (.pair (.slice (.pair (.int .u64) (.slice (.int .u8)))) (.slice (.int .i64))))), .imm (.int .u64)], [.imm (.int .i64), .imm (.int .i64)],fun k x=>zV1 k x.1 x.2⟩
def yF2:zV:=fun n=>cond (Nat.beq n 18) (some xAe) (cond (Nat.beq n 6) (some xDg) (none))
def yLz:List (Nat×zE):= []
abbrev zN8:=(List ((List UInt8)×(List Int)×Int))→(List UInt8)→Int→(List ((List UInt8)×(List Int)×Int))→Option ((List ((List UInt8)×(List Int)×Int)))
def zNz (q:zN8):zN8:=fun v0 v1 v2 v3=>(bif (decide (v2<((v0).length:Int))) then ((at? v0 v2).bind fun e1=>(bif (!(e1.1==v1)) then ((at? v0 v2).bind fun e2=>(bif yK ((v3++ [e2])).length 48 then q v0 v1 (IntKind.wrap .i64 (v2+1)) (v3++ [e2]) else none)) else q v0 v1 (IntKind.wrap .i64 (v2+1)) v3)) else some v3)
def zIy:Nat→zN8
 |0=>fun _ _ _ _=>none
 |k+1=>zNz (zIy k)
def xHq:wV:=⟨⟨[(5, .sref 500000)], [.val 0 (.slice (.pair .str (.pair (.slice (.int .u8)) (.int .i64)))), .val 1 .str, .val 6 (.int .i64), .arr 500000 (.pair .str (.pair (.slice (.int .u8)) (.int .i64)))]⟩, [(.exit 0,⟨[(5, .sref 500000)], [.arr 500000 (.pair .str (.pair (.slice (.int .u8)) (.int .i64)))]⟩)],fun k x=>zIy k x.1 x.2.1 x.2.2.1 x.2.2.2⟩
abbrev yC4:=(List ((List UInt8)×(List Int)×Int))→(List UInt8)→Option (List ((List UInt8)×(List Int)×Int))
def yDd (h0:zN8):yC4:=fun x0 x1=>((h0 x0 x1 0 []).bind fun o3=>some o3)
def yKi (k:Nat):yC4:=yDd (zIy k)
def yCr:zE:=⟨[.imm (.slice (.pair .str (.pair (.slice (.int .u8)) (.int .i64)))), .imm .str], [.own (.pair .str (.pair (.slice (.int .u8)) (.int .i64)))],fun k x=>yKi k x.1 x.2⟩
def yL0:zV:=fun n=>cond (Nat.beq n 8) (some xHq) (none)
def yRy:List (Nat×zE):= []
abbrev zNw:=(List ((List UInt8)×(List Int)×Int))→(List UInt8)→Option ((List ((List UInt8)×(List Int)×Int))×Int)
def zT1 (h0:zG0) (h1:yC4):zNw:=fun x0 x1=>((h0 x0 x1).bind fun r1=>(bif (decide (r1<0)) then some (x0,4) else ((h1 x0 x1).bind fun r2=>some (r2,0))))
def zSq (k:Nat):zNw:=zT1 (zM2 k) (yKi k)
def zM8:zE:=⟨[.imm (.slice (.pair .str (.pair (.slice (.int .u8)) (.int .i64)))), .imm .str], [.imm (.slice (.pair .str (.pair (.slice (.int .u8)) (.int .i64)))), .imm (.int .i64)],fun k x=>zSq k x.1 x.2⟩
def yD2:zV:=fun _=>none
def yIp:List (Nat×zE):= [(82,zE7),(84,yCr)]
abbrev zVm:=(List ((List UInt8)×(List Int)×Int))→(List UInt8)→Int→Option ((List ((List UInt8)×(List Int)×Int))×Int)
def yDg (h0:zG0) (h1:zRm):zVm:=fun x0 x1 x2=>((h0 x0 x1).bind fun r1=>(bif (decide (r1<0)) then some (x0,4) else ((at? x0 r1).bind fun e2=>(bif (decide (x2<0)) then some (x0,1) else (bif (decide (x2>((e2.2.1).length:Int))) then some (x0,1) else (bif (true&&decide ((0:Int)≤x2)&&decide (x2≤((e2.2.1).length:Int))) then (bif (decide (e2.2.2>x2)) then ((h1 x0 (e2.1,((cut e2.2.1 0 x2),x2))).bind fun r3=>some (r3,0)) else ((h1 x0 (e2.1,((cut e2.2.1 0 x2),e2.2.2))).bind fun r4=>some (r4,0))) else none))))))
def yEn (k:Nat):zVm:=yDg (zM2 k) (zXs k)
def zUp:zE:=⟨[.imm (.slice (.pair .str (.pair (.slice (.int .u8)) (.int .i64)))), .imm .str, .imm (.int .i64)], [.imm (.slice (.pair .str (.pair (.slice (.int .u8)) (.int .i64)))), .imm (.int .i64)],fun k x=>yEn k x.1 x.2.1 x.2.2⟩
def yK8:zV:=fun _=>none
def yR2:List (Nat×zE):= [(82,zE7),(83,zOu)]
abbrev zEo:=(List ((List UInt8)×(List Int)×Int))→Int→Int→(List ((List UInt8)×(List Int)×Int))→Int→(List (Int×(List (Int×List Int))×List Int))→Option (((List ((List UInt8)×(List Int)×Int))×Int×Int×(List ((List UInt8)×(List Int)×Int))×List (Int×(List (Int×List Int))×List Int)))
def zEj (h0:zNw) (q:zEo):zEo:=fun v0 v1 v2 v3 v4 v5=>(bif (decide (v4>v1)) then (bif (decide (0≤v4)&&decide (v4<(v5).length)) then ((v5[Int.toNat v4]?).bind fun w3=>((at? v0 w3.1).bind fun e4=>((h0 v3 e4.1).bind fun r5=>q v0 v1 v2 r5.1 (IntKind.wrap .i64 (v4-1)) v5))) else none) else some (v0,v1,v2,v3,v5))
def zBa:Nat→zEo
 |0=>fun _ _ _ _ _ _=>none
 |k+1=>zEj (zSq k) (zBa k)
def yV9:wV:=⟨⟨[(6, .sref 500000)], [.val 0 (.slice (.pair .str (.pair (.slice (.int .u8)) (.int .i64)))), .val 7 (.int .i64), .val 8 (.int .i64), .val 9 (.slice (.pair .str (.pair (.slice (.int .u8)) (.int .i64)))), .val 10 (.int .i64), .arr 500000 (.pair (.int .i64) (.pair (.slice (.pair (.int .u64) (.slice (.int .u8)))) (.slice (.int .i64))))]⟩, [(.exit 0,⟨[(6, .sref 500000)], [.val 0 (.slice (.pair .str (.pair (.slice (.int .u8)) (.int .i64)))), .val 7 (.int .i64), .val 8 (.int .i64), .val 9 (.slice (.pair .str (.pair (.slice (.int .u8)) (.int .i64)))), .arr 500000 (.pair (.int .i64) (.pair (.slice (.pair (.int .u64) (.slice (.int .u8)))) (.slice (.int .i64))))]⟩)],fun k x=>zBa k x.1 x.2.1 x.2.2.1 x.2.2.2.1 x.2.2.2.2.1 x.2.2.2.2.2⟩
abbrev zR3:=(List ((List UInt8)×(List Int)×Int))→Int→Option ((List ((List UInt8)×(List Int)×Int))×Int)
def zKw (h0:kF) (h1:zQ9) (h2:zEo) (h3:zVm):zR3:=fun x0 x1=>((h0 x0).bind fun r1=>((h1 r1 x1).bind fun r2=>(bif (decide (r2.1<0)) then some (x0,4) else ((h2 x0 r2.1 r2.2 x0 (IntKind.wrap .i64 (((r1).length:Int)-1)) r1).bind fun o6=>(bif (decide (o6.2.2.1>0)) then (bif (decide (0≤o6.2.1)&&decide (o6.2.1<(o6.2.2.2.2).length)) then ((o6.2.2.2.2[Int.toNat o6.2.1]?).bind fun w7=>((at? w7.2.2 (IntKind.wrap .i64 (o6.2.2.1-1))).bind fun e8=>(bif (decide (0≤o6.2.1)&&decide (o6.2.1<(o6.2.2.2.2).length)) then ((o6.2.2.2.2[Int.toNat o6.2.1]?).bind fun w9=>((at? o6.1 w9.1).bind fun e10=>((h3 o6.2.2.2.1 e10.1 e8).bind fun r11=>some (r11.1,0)))) else none))) else none) else (bif (decide (0≤o6.2.1)&&decide (o6.2.1<(o6.2.2.2.2).length)) then ((o6.2.2.2.2[Int.toNat o6.2.1]?).bind fun w12=>((at? o6.1 w12.1).bind fun e13=>((h3 o6.2.2.2.1 e13.1 0).bind fun r14=>some (r14.1,0)))) else none))))))
def zWh (k:Nat):zR3:=zKw (zAt k) (zV1 k) (zBa k) (yEn k)
def zSx:zE:=⟨[.imm (.slice (.pair .str (.pair (.slice (.int .u8)) (.int .i64)))), .imm (.int .u64)], [.imm (.slice (.pair .str (.pair (.slice (.int .u8)) (.int .i64)))), .imm (.int .i64)],fun k x=>zWh k x.1 x.2⟩
def yBp:zV:=fun n=>cond (Nat.beq n 20) (some yV9) (none)
def yGm:List (Nat×zE):= [(45,jM),(47,zPq),(48,zM8),(49,zUp)]
abbrev zCh:=Int→Unit→Unit→(List SG)→FL→Option ((Unit×Unit×(List SG)×FL))
def jR (h0:zHx) (h1:zFw) (h2:zCt) (q:zCh):zCh:=fun v0 v1 v2 v3 v4=>(bif (decide (((v3).length:Int)>1)) then (bif (decide (0≤(0:Int))&&decide ((0:Int)<(v3).length)) then ((v3[0]?).bind fun w3=>(bif (((w3.2.2.1).length:Int)==0) then (bif (decide (0≤(0:Int))&&decide ((0:Int)<(v3).length)) then (((v3.set 0 w3)[0]?).bind fun w4=>((h0 w4.1).bind fun r5=>((h1 v4 r5).bind fun r6=>(bif (true&&decide ((1:Int)≤((((v3.set 0 w3).set 0 w4)).length:Int))&&decide (((((v3.set 0 w3).set 0 w4)).length:Int)≤((((v3.set 0 w3).set 0 w4)).length:Int))) then q v0 () () (cut ((v3.set 0 w3).set 0 w4) 1 ((((v3.set 0 w3).set 0 w4)).length:Int)) r6.2 else none)))) else none) else (bif (decide (0≤(0:Int))&&decide ((0:Int)<(v3).length)) then (((v3.set 0 w3)[0]?).bind fun w7=>((h2 w7).bind fun r8=>(bif (decide (r8≤v0)) then (bif (decide (0≤(0:Int))&&decide ((0:Int)<((v3.set 0 w3)).length)) then ((((v3.set 0 w3).set 0 w7)[0]?).bind fun w9=>((h0 w9.1).bind fun r10=>((h1 v4 r10).bind fun r11=>(bif (true&&decide ((1:Int)≤(((((v3.set 0 w3).set 0 w7).set 0 w9)).length:Int))&&decide ((((((v3.set 0 w3).set 0 w7).set 0 w9)).length:Int)≤(((((v3.set 0 w3).set 0 w7).set 0 w9)).length:Int))) then q v0 () () (cut (((v3.set 0 w3).set 0 w7).set 0 w9) 1 (((((v3.set 0 w3).set 0 w7).set 0 w9)).length:Int)) r11.2 else none)))) else none) else some ((),(),((v3.set 0 w3).set 0 w7),v4)))) else none))) else none) else some ((),(),v3,v4))
def kX:Nat→zCh
 |0=>fun _ _ _ _ _=>none
 |k+1=>jR (zPn k) (zE6 k) (zFa k) (kX k)
def ySn:wV:=⟨⟨[(0, .ptr 3000000 0)], [.val 1 (.int .u64), .cells 3000000 [.stat (.ptr 2000000 0), .stat (.dref 500000)], .cells 2000000 [.stat (.mref 1000000)], .segs 500000, .pm 1000000]⟩, [(.exit 0,⟨[(0, .ptr 3000000 0)], [.cells 3000000 [.stat (.ptr 2000000 0), .stat (.dref 500000)], .cells 2000000 [.stat (.mref 1000000)], .segs 500000, .pm 1000000]⟩)],fun k x=>kX k x.1 x.2.1 x.2.2.1 x.2.2.2.1 x.2.2.2.2⟩
abbrev zNd:=(FL×List SG)→Int→Option (Int×FL×List SG)
def zHv (h0:zD0) (h1:zIk) (h2:zCh):zNd:=fun x0 x1=>((h0 (true,(x0.2.map some))).bind fun r1=>(bif (!r1) then some (1,x0) else ((h1 (true,(x0.2.map some)) x1).bind fun r2=>(bif (decide (r2<0)) then some (4,x0) else ((h2 x1 () () x0.2 x0.1).bind fun o12=>some (0,(o12.2.2.2,o12.2.2.1)))))))
def zR1 (k:Nat):zNd:=zHv (zHy k) (zOe k) (kX k)
def zPf:zE:=⟨[.lento [.dsk, .segs], .imm (.int .u64)], [.imm (.int .i64), .backo [.dsk, .segs]],fun k x=>zR1 k x.1 x.2⟩
def zYg:zV:=fun n=>cond (Nat.beq n 20) (some ySn) (none)
def yBu:List (Nat×zE):= [(35,zBj),(37,zHa),(33,zG5),(31,zCi),(41,zCn)]
abbrev zEi:=(List ((List UInt8)×(List Int)×Int))→Int→(List ((List UInt8)×(List Int)×Int))→Int→(List (Int×(List (Int×List Int))×List Int))→Option ((List ((List UInt8)×(List Int)×Int)))
def zBm (h0:zNw) (q:zEi):zEi:=fun v0 v1 v2 v3 v4=>(bif (decide (v3<(IntKind.wrap .i64 (((v4).length:Int)-1)))) then (bif (decide (0≤v3)&&decide (v3<(v4).length)) then ((v4[Int.toNat v3]?).bind fun w3=>(bif (decide (((w3.2.1).length:Int)>0)) then (bif (decide (0≤v3)&&decide (v3<(v4).length)) then ((v4[Int.toNat v3]?).bind fun w4=>(bif (decide (0≤v3)&&decide (v3<(v4).length)) then ((v4[Int.toNat v3]?).bind fun w5=>((at? w4.2.1 (IntKind.wrap .i64 (((w5.2.1).length:Int)-1))).bind fun e6=>(bif (decide (e6.1>v1)) then some v2 else (bif (decide (0≤v3)&&decide (v3<(v4).length)) then ((v4[Int.toNat v3]?).bind fun w7=>((at? v0 w7.1).bind fun e8=>((h0 v2 e8.1).bind fun r9=>q v0 v1 r9.1 (IntKind.wrap .i64 (v3+1)) v4))) else none)))) else none)) else none) else (bif (decide (0≤v3)&&decide (v3<(v4).length)) then ((v4[Int.toNat v3]?).bind fun w10=>((at? v0 w10.1).bind fun e11=>((h0 v2 e11.1).bind fun r12=>q v0 v1 r12.1 (IntKind.wrap .i64 (v3+1)) v4))) else none))) else none) else some v2)
def zA9:Nat→zEi
 |0=>fun _ _ _ _ _=>none
 |k+1=>zBm (zSq k) (zA9 k)
def yWc:wV:=⟨⟨[(6, .sref 500000)], [.val 0 (.slice (.pair .str (.pair (.slice (.int .u8)) (.int .i64)))), .val 1 (.int .u64), .val 9 (.slice (.pair .str (.pair (.slice (.int .u8)) (.int .i64)))), .val 10 (.int .i64), .arr 500000 (.pair (.int .i64) (.pair (.slice (.pair (.int .u64) (.slice (.int .u8)))) (.slice (.int .i64))))]⟩, [(.exit 0,⟨[], [.val 9 (.slice (.pair .str (.pair (.slice (.int .u8)) (.int .i64))))]⟩)],fun k x=>zA9 k x.1 x.2.1 x.2.2.1 x.2.2.2.1 x.2.2.2.2⟩
abbrev zSn:=(List ((List UInt8)×(List Int)×Int))→Int→Option ((List ((List UInt8)×(List Int)×Int))×Int)
def zKx (h0:kF) (h1:zQ9) (h2:zEi):zSn:=fun x0 x1=>((h0 x0).bind fun r1=>((h1 r1 x1).bind fun r2=>(bif (decide (r2.1<0)) then some (x0,4) else ((h2 x0 x1 x0 0 r1).bind fun o13=>some (o13,0)))))
def zWa (k:Nat):zSn:=zKx (zAt k) (zV1 k) (zA9 k)
def zTg:zE:=⟨[.imm (.slice (.pair .str (.pair (.slice (.int .u8)) (.int .i64)))), .imm (.int .u64)], [.imm (.slice (.pair .str (.pair (.slice (.int .u8)) (.int .i64)))), .imm (.int .i64)],fun k x=>zWa k x.1 x.2⟩
def yBw:zV:=fun n=>cond (Nat.beq n 20) (some yWc) (none)
def yFz:List (Nat×zE):= [(45,jM),(47,zPq),(48,zM8)]
abbrev zDd:=(List Int)→Int→Int→Unit→(List (List UInt8))→FL→Option ((Unit×FL))
def zDn (h0:xV) (q:zDd):zDd:=fun v0 v1 v2 v3 v4 v5=>(bif (decide (v2<v1)) then (bif (decide (0≤v2)&&decide (v2<(v4).length)) then ((v4[Int.toNat v2]?).bind fun w2=>((xG (kt:= .str) w2 v5).bind fun w3=>(bif (decide (v2<((v0).length:Int))) then ((at? v0 v2).bind fun e4=>(bif (decide ((0:Int)≤(IntKind.wrap .i64 (w3.2+(zDo 0 (jW e4 (IntKind.wrap .i64 (((w3.1).length:Int)-w3.2)))))))&&decide ((IntKind.wrap .i64 (w3.2+(zDo 0 (jW e4 (IntKind.wrap .i64 (((w3.1).length:Int)-w3.2))))))≤((w3.1).length:Int))) then ((h0 (cut w3.1 0 (IntKind.wrap .i64 (w3.2+(zDo 0 (jW e4 (IntKind.wrap .i64 (((w3.1).length:Int)-w3.2)))))))).bind fun r5=>q v0 v1 (IntKind.wrap .i64 (v2+1)) () v4 (wJ (kt:= .str) w2 (r5,((r5).length:Int)) v5)) else none)) else (bif (decide ((0:Int)≤(IntKind.wrap .i64 (w3.2+0)))&&decide ((IntKind.wrap .i64 (w3.2+0))≤((w3.1).length:Int))) then ((h0 (cut w3.1 0 (IntKind.wrap .i64 (w3.2+0)))).bind fun r6=>q v0 v1 (IntKind.wrap .i64 (v2+1)) () v4 (wJ (kt:= .str) w2 (r6,((r6).length:Int)) v5)) else none)))) else none) else some ((),v5))
def zAk:Nat→zDd
 |0=>fun _ _ _ _ _ _=>none
 |k+1=>zDn (xU k) (zAk k)
def yS5:wV:=⟨⟨[(0, .ptr 2000000 0),(9, .sref 500000)], [.val 1 (.slice (.int .i64)), .val 10 (.int .i64), .val 11 (.int .i64), .cells 2000000 [.stat (.mref 1000000)], .arr 500000 .str, .pm 1000000]⟩, [(.exit 0,⟨[(0, .ptr 2000000 0)], [.cells 2000000 [.stat (.mref 1000000)], .pm 1000000]⟩)],fun k x=>zAk k x.1 x.2.1 x.2.2.1 x.2.2.2.1 x.2.2.2.2.1 x.2.2.2.2.2⟩
abbrev zHg:=FL→(List Int)→Option FL
def zM9 (h0:zHe) (h1:zDd):zHg:=fun x0 x1=>((h0 x0).bind fun r1=>((h1 x1 ((r1.1).length:Int) 0 () r1.1 r1.2).bind fun o7=>some o7.2))
def zKv (k:Nat):zHg:=zM9 (zK1 k) (zAk k)
def zHz:zE:=⟨[.disk, .imm (.slice (.int .i64))], [.backd],fun k x=>zKv k x.1 x.2⟩
def zX6:zV:=fun n=>cond (Nat.beq n 3) (some yS5) (none)
def yBr:List (Nat×zE):= [(38,zH4),(39,wK)]
abbrev zHt:=(List ((List UInt8)×(List Int)×Int))→(List Int)→Int→Int→Int→(List ((List UInt8)×(List Int)×Int))→((List UInt8)×(List Int)×Int)→Option (((List ((List UInt8)×(List Int)×Int))×(List Int)×Int×Int×(List ((List UInt8)×(List Int)×Int))×(List UInt8)×(List Int)×Int))
def zHj (q:zHt):zHt:=fun v0 v1 v2 v3 v4 v5 v6=>((at? v1 v2).bind fun e2=>(bif (decide (v4<e2)) then (bif (decide (v3<((v6.2.1).length:Int))) then q v0 v1 v2 (IntKind.wrap .i64 (v3+1)) (IntKind.wrap .i64 (v4+1)) v5 v6 else some (v0,v1,v2,v3,v5,v6)) else some (v0,v1,v2,v3,v5,v6)))
def zDw:Nat→zHt
 |0=>fun _ _ _ _ _ _ _=>none
 |k+1=>zHj (zDw k)
def xAm:wV:=⟨⟨[(5, .sref 500000),(7, .ptr 500001 0)], [.val 0 (.slice (.pair .str (.pair (.slice (.int .u8)) (.int .i64)))), .val 1 (.slice (.int .i64)), .val 6 (.int .i64), .val 8 (.int .i64), .val 9 (.int .i64), .arr 500000 (.pair .str (.pair (.slice (.int .u8)) (.int .i64))), .cells 500001 [.dyn .str, .dyn (.slice (.int .u8)), .dyn (.int .i64)]]⟩, [(.exit 2,⟨[(5, .sref 500000),(7, .ptr 500001 0)], [.val 0 (.slice (.pair .str (.pair (.slice (.int .u8)) (.int .i64)))), .val 1 (.slice (.int .i64)), .val 6 (.int .i64), .val 8 (.int .i64), .arr 500000 (.pair .str (.pair (.slice (.int .u8)) (.int .i64))), .cells 500001 [.dyn .str, .dyn (.slice (.int .u8)), .dyn (.int .i64)]]⟩)],fun k x=>zDw k x.1 x.2.1 x.2.2.1 x.2.2.2.1 x.2.2.2.2.1 x.2.2.2.2.2.1 x.2.2.2.2.2.2⟩
abbrev zJu:=(List ((List UInt8)×(List Int)×Int))→(List Int)→Int→(List ((List UInt8)×(List Int)×Int))→Option ((List ((List UInt8)×(List Int)×Int)))
def zJe (h0:zHt) (q:zJu):zJu:=fun v0 v1 v2 v3=>(bif (decide (v2<((v0).length:Int))) then ((at? v0 v2).bind fun e1=>(bif (decide (v2<((v1).length:Int))) then ((h0 v0 v1 v2 e1.2.2 0 v3 e1).bind fun o3=>(bif (true&&decide ((0:Int)≤o3.2.2.2.1)&&decide (o3.2.2.2.1≤((o3.2.2.2.2.2.2.1).length:Int))) then (bif yK ((o3.2.2.2.2.1++ [(o3.2.2.2.2.2.1,((cut o3.2.2.2.2.2.2.1 0 o3.2.2.2.1),o3.2.2.2.1))])).length 48 then q o3.1 o3.2.1 (IntKind.wrap .i64 (o3.2.2.1+1)) (o3.2.2.2.2.1++ [(o3.2.2.2.2.2.1,((cut o3.2.2.2.2.2.2.1 0 o3.2.2.2.1),o3.2.2.2.1))]) else none) else none)) else (bif (true&&decide ((0:Int)≤e1.2.2)&&decide (e1.2.2≤((e1.2.1).length:Int))) then (bif yK ((v3++ [(e1.1,((cut e1.2.1 0 e1.2.2),e1.2.2))])).length 48 then q v0 v1 (IntKind.wrap .i64 (v2+1)) (v3++ [(e1.1,((cut e1.2.1 0 e1.2.2),e1.2.2))]) else none) else none))) else some v3)
def zEt:Nat→zJu
 |0=>fun _ _ _ _=>none
 |k+1=>zJe (zDw k) (zEt k)
def xC0:wV:=⟨⟨[(5, .sref 500000)], [.val 0 (.slice (.pair .str (.pair (.slice (.int .u8)) (.int .i64)))), .val 1 (.slice (.int .i64)), .val 6 (.int .i64), .arr 500000 (.pair .str (.pair (.slice (.int .u8)) (.int .i64)))]⟩, [(.exit 0,⟨[(5, .sref 500000)], [.arr 500000 (.pair .str (.pair (.slice (.int .u8)) (.int .i64)))]⟩)],fun k x=>zEt k x.1 x.2.1 x.2.2.1 x.2.2.2⟩
abbrev zWl:=(List ((List UInt8)×(List Int)×Int))→(List Int)→Option (List ((List UInt8)×(List Int)×Int))
def zWc (h0:zJu):zWl:=fun x0 x1=>((h0 x0 x1 0 []).bind fun o4=>some o4)
def yDj (k:Nat):zWl:=zWc (zEt k)
def zW8:zE:=⟨[.imm (.slice (.pair .str (.pair (.slice (.int .u8)) (.int .i64)))), .imm (.slice (.int .i64))], [.imm (.slice (.pair .str (.pair (.slice (.int .u8)) (.int .i64))))],fun k x=>yDj k x.1 x.2⟩
def yFu:zV:=fun n=>cond (Nat.beq n 28) (some xAm) (cond (Nat.beq n 8) (some xC0) (none))
def yLp:List (Nat×zE):= []
abbrev zKu:=Int→Int→(List Int)→Option ((List Int))
def zLr (q:zKu):zKu:=fun v0 v1 v2=>(bif (decide (v1>3)) then (bif (decide (0≤v1)&&decide (v1<(v2).length)) then ((v2[(Int.toNat v1)]?).bind fun w1=>q (IntKind.wrap .i64 (Int.tdiv v0 10)) (IntKind.wrap .i64 (v1-1)) (v2.set (Int.toNat v1) (IntKind.wrap .u8 (IntKind.wrap .i64 (48+(Int.tmod v0 10)))))) else none) else some v2)
def zGs:Nat→zKu
 |0=>fun _ _ _=>none
 |k+1=>zLr (zGs k)
def xF4:wV:=⟨⟨[(3, .sref 500000)], [.val 0 (.int .i64), .val 4 (.int .i64), .arr 500000 (.int .u8)]⟩, [(.exit 0,⟨[(3, .sref 500000)], [.arr 500000 (.int .u8)]⟩)],fun k x=>zGs k x.1 x.2.1 x.2.2⟩
abbrev zOn:=Int→Option (List UInt8)
def zZ0 (h0:zKu):zOn:=fun x0=>(bif !([119,97,108,45,48,48,48,48,48,48,48,48]).isEmpty then ((h0 x0 11 [119,97,108,45,48,48,48,48,48,48,48,48]).bind fun o2=>some (xZ o2)) else none)
def zT3 (k:Nat):zOn:=zZ0 (zGs k)
def zRw:zE:=⟨[.imm (.int .i64)], [.imm .str],fun k x=>zT3 k x⟩
def yJc:zV:=fun n=>cond (Nat.beq n 8) (some xF4) (none)
def yNk:List (Nat×zE):= []
abbrev zTl:=(Int×(List (Int×List Int))×List Int)→Option Int
def zYl:zTl:=fun x0=>(bif (((x0.2.2).length:Int)==0) then some 0 else ((at? x0.2.2 (IntKind.wrap .i64 (((x0.2.2).length:Int)-1))).bind fun e1=>some e1))
def yAz (k:Nat):zTl:=zYl
def zR5:zE:=⟨[.agg (.pair (.int .i64) (.pair (.slice (.pair (.int .u64) (.slice (.int .u8)))) (.slice (.int .i64))))], [.imm (.int .i64)],fun k x=>yAz k x⟩
def yIz:zV:=fun _=>none
def yOj:List (Nat×zE):= []
abbrev zJg:=(List ((List UInt8)×(List Int)×Int))→Int→Int→(Int×(List (Int×List Int))×List Int)→(List ((List UInt8)×(List Int)×Int))→Option ((Int×(Int×(List (Int×List Int))×List Int)×List ((List UInt8)×(List Int)×Int)))
def zJj (h0:zEx) (q:zJg):zJg:=fun v0 v1 v2 v3 v4=>(bif (decide (v2<((v0).length:Int))) then ((at? v0 v2).bind fun e5=>((h0 e5.1).bind fun r6=>(bif (decide (r6≤v1)) then ((at? v0 v2).bind fun e7=>(bif yK ((v4++ [e7])).length 48 then q v0 v1 (IntKind.wrap .i64 (v2+1)) v3 (v4++ [e7]) else none)) else q v0 v1 (IntKind.wrap .i64 (v2+1)) v3 v4))) else some (v1,v3,v4))
def zEw:Nat→zJg
 |0=>fun _ _ _ _ _=>none
 |k+1=>zJj (zJa k) (zEw k)
def xEd:wV:=⟨⟨[(4, .ptr 500000 0),(6, .sref 500001)], [.val 0 (.slice (.pair .str (.pair (.slice (.int .u8)) (.int .i64)))), .val 5 (.int .i64), .val 7 (.int .i64), .cells 500000 [.dyn (.int .i64), .dyn (.slice (.pair (.int .u64) (.slice (.int .u8)))), .dyn (.slice (.int .i64))], .arr 500001 (.pair .str (.pair (.slice (.int .u8)) (.int .i64)))]⟩, [(.exit 0,⟨[(4, .ptr 500000 0),(6, .sref 500001)], [.val 5 (.int .i64), .cells 500000 [.dyn (.int .i64), .dyn (.slice (.pair (.int .u64) (.slice (.int .u8)))), .dyn (.slice (.int .i64))], .arr 500001 (.pair .str (.pair (.slice (.int .u8)) (.int .i64)))]⟩)],fun k x=>zEw k x.1 x.2.1 x.2.2.1 x.2.2.2.1 x.2.2.2.2⟩
abbrev zYx:=(List ((List UInt8)×(List Int)×Int))→Option (List ((List UInt8)×(List Int)×Int))
def zTi (h0:kF) (h1:zEx) (h2:zJg) (h3:zOn) (h4:zTl) (h5:zVm):zYx:=fun x0=>((h0 x0).bind fun r1=>(bif (((r1).length:Int)==0) then some x0 else (bif (decide (0≤(IntKind.wrap .i64 (((r1).length:Int)-1)))&&decide ((IntKind.wrap .i64 (((r1).length:Int)-1))<(r1).length)) then ((r1[Int.toNat (IntKind.wrap .i64 (((r1).length:Int)-1))]?).bind fun w2=>((at? x0 w2.1).bind fun e3=>((h1 e3.1).bind fun r4=>((h2 x0 r4 0 w2 []).bind fun o8=>((h3 o8.1).bind fun r9=>((h4 o8.2.1).bind fun r10=>((h5 o8.2.2 r9 r10).bind fun r11=>some r11.1))))))) else none)))
def yHc (k:Nat):zYx:=zTi (zAt k) (zJa k) (zEw k) (zT3 k) (yAz k) (yEn k)
def zZ1:zE:=⟨[.imm (.slice (.pair .str (.pair (.slice (.int .u8)) (.int .i64))))], [.imm (.slice (.pair .str (.pair (.slice (.int .u8)) (.int .i64))))],fun k x=>yHc k x⟩
def yJk:zV:=fun n=>cond (Nat.beq n 22) (some xEd) (none)
def yN2:List (Nat×zE):= [(45,jM),(50,zHn),(51,zRw),(52,zR5),(49,zUp)]
abbrev yHm:=(List UInt8)→Option Bool
def yG2:yHm:=fun x0=>(bif (decide (((x0).length:Int)≥1)) then (bif (decide (((x0).length:Int)≤32)) then ((yGu x0 [97,98,99,100,101,102,103,104,105,106,107,108,109,110,111,112,113,114,115,116,117,118,119,120,121,122,48,49,50,51,52,53,54,55,56,57,46,45]).bind fun r1=>some (r1== [])) else some false) else some false)
def yP0 (k:Nat):yHm:=yG2
def yFk:zE:=⟨[.imm .str], [.imm .bool],fun k x=>yP0 k x⟩
def yNu:zV:=fun _=>none
def yTu:List (Nat×zE):= [(67,zU2)]
abbrev zKy:=FL→(List UInt8)→(List Int)→Option (Int×FL)
def zKz (h0:zIf) (h1:yHm):zKy:=fun x0 x1 x2=>((h0 x0).bind fun r1=>(bif (!r1.1) then some (1,r1.2) else ((h1 x1).bind fun r2=>(bif (!r2) then some (1,r1.2) else ((xG (kt:= .str) x1 r1.2).elim ((bif (decide (((r1.2).length:Int)≥64)) then some (2,r1.2) else (bif (decide (((x2).length:Int)>65536)) then some (2,r1.2) else (bif yK (x2).length 1 then some (0,(wJ (kt:= .str) x1 (x2,0) r1.2)) else none)))) fun w3=>(bif (decide (((x2).length:Int)>(IntKind.wrap .i64 (65536-((w3.1).length:Int))))) then some (2,(wJ (kt:= .str) x1 (w3.1,w3.2) r1.2)) else (bif yK ((w3.1++x2)).length 1 then (bif ((x1==x1)&&true) then some (0,(wJ (kt:= .str) x1 ((w3.1++x2),w3.2) r1.2)) else none) else none)))))))
def zPo (k:Nat):zKy:=zKz (zNy k) (yP0 k)
def zOo:zE:=⟨[.disk, .imm .str, .imm (.slice (.int .u8))], [.imm (.int .i64), .backd],fun k x=>zPo k x.1 x.2.1 x.2.2⟩
def zVj:zV:=fun _=>none
def yAs:List (Nat×zE):= [(72,zHd),(78,yFk)]
abbrev yHu:=(List Int)→Option (List Int)
def yHw:yHu:=fun x0=>(bif (true&&decide ((0:Int)≤((x0).length:Int))&&decide (((x0).length:Int)≤((x0).length:Int))) then (bif (((x0).length:Int)==((x0).length:Int)) then some (cut x0 0 ((x0).length:Int)) else none) else none)
def yPa (k:Nat):yHu:=yHw
def yFc:zE:=⟨[.imm (.slice (.int .u8))], [.full (.int .u8)],fun k x=>yPa k x⟩
def yM1:zV:=fun _=>none
def yS4:List (Nat×zE):= []
abbrev zHk:=Int→(List Int)→Option ((Int×List Int))
def zNq (q:zHk):zHk:=fun v0 v1=>(bif (decide (v0≥128)) then (bif yK ((v1++ [(xH .or .u8 (IntKind.wrap .u8 v0) 128)])).length 1 then q (zB2 .u64 v0 7) (v1++ [(xH .or .u8 (IntKind.wrap .u8 v0) 128)]) else none) else some (v0,v1))
def zDr:Nat→zHk
 |0=>fun _ _=>none
 |k+1=>zNq (zDr k)
def xA6:wV:=⟨⟨[(0, .sref 500001)], [.val 1 (.int .u64), .app 500001 (.int .u8)]⟩, [(.exit 0,⟨[(0, .sref 500001)], [.val 1 (.int .u64), .app 500001 (.int .u8)]⟩)],fun k x=>zDr k x.1 x.2⟩
abbrev zNx:=(List Int)→Int→Option (List Int)
def zT5 (h0:yHu) (h1:zHk):zNx:=fun x0 x1=>((h0 x0).bind fun r1=>((h1 x1 r1).bind fun o2=>(bif yK ((o2.2++ [(IntKind.wrap .u8 o2.1)])).length 1 then some (o2.2++ [(IntKind.wrap .u8 o2.1)]) else none)))
def zSy (k:Nat):zNx:=zT5 (yPa k) (zDr k)
def zNp:zE:=⟨[.imm (.slice (.int .u8)), .imm (.int .u64)], [.own (.int .u8)],fun k x=>zSy k x.1 x.2⟩
def yDt:zV:=fun n=>cond (Nat.beq n 6) (some xA6) (none)
def yI1:List (Nat×zE):= [(80,yFc)]
abbrev yDf:=Int→(List Int)→Option ((List Int)×Int)
def yCw (h0:zZt) (h1:zNx):yDf:=fun x0 x1=>(bif (decide (((x1).length:Int)>1048571)) then some ([],3) else (bif yK (([x0]++x1)).length 1 then ((h0 ([x0]++x1)).bind fun r1=>((h1 [] (IntKind.wrap .u64 ((r1).length:Int))).bind fun r2=>(bif yK ((r2++r1)).length 1 then some ((r2++r1),0) else none))) else none))
def yL7 (k:Nat):yDf:=yCw (yJn k) (zSy k)
def yCp:zE:=⟨[.imm (.int .u8), .imm (.slice (.int .u8))], [.own (.int .u8), .imm (.int .i64)],fun k x=>yL7 k x.1 x.2⟩
def yLm:zV:=fun _=>none
def yRd:List (Nat×zE):= [(79,zWm),(44,zNp)]
abbrev zJm:=(FL×List SG)→(Int×List Int)→Option (Int×FL×List SG)
def vR (h0:zFc) (h1:zD0) (h2:zHx) (h3:zKy) (h4:zNx) (h5:yDf) (h6:zCw) (h7:xV) (h8:zFe):zJm:=fun x0 x1=>((h0 (true,(x0.2.map some))).bind fun r1=>((h1 (true,(x0.2.map some))).bind fun r2=>(bif (!r2) then some (1,x0) else (bif (x1.1==0) then some (1,x0) else (bif (decide (((x1.2).length:Int)>4096)) then some (3,x0) else (bif (r1 !=0) then (bif (x1.1 !=(IntKind.wrap .u64 (r1+1))) then some (12,x0) else (bif Nat.ble (x0.2).length 4611686018427387904 then (bif (Nat.beq (x0.2).length 0) then ((h2 1).bind fun r3=>((h3 x0.1 r3 []).bind fun r4=>(bif (r4.1 !=0) then some (2,(r4.2,x0.2)) else (bif yK ((x0.2).length+(([(1,0, [], [])]:List SG)).length) 8 then ((h4 [] x1.1).bind fun r5=>(bif yK ((r5++x1.2)).length 1 then ((h5 1 (r5++x1.2)).bind fun r6=>((h2 1).bind fun r7=>((h3 r4.2 r7 r6.1).bind fun r8=>(bif (r8.1 !=0) then some (2,(r8.2,((x0.2++([(1,0, [], [])]:List SG)).set (((x0.2).length)+0) (1,0, [], [])))) else ((h6 (1,(x1.1,([], [])))).bind fun r9=>(bif yK ([(IntKind.wrap .i64 (r9+((r6.1).length:Int)))]).length 8 then ((h7 x1.2).bind fun r10=>(bif yK ([r10]).length 24 then some (0,(r8.2,((x0.2++([(1,0, [], [])]:List SG)).set (((x0.2).length)+0) (1,x1.1, [(IntKind.wrap .i64 (r9+((r6.1).length:Int)))], [r10])))) else none)) else none)))))) else none)) else none)))) else ((x0.2[(x0.2).length-1]?).bind fun w11=>((h6 w11).bind fun r12=>(bif (decide (r12>4096)) then ((h2 w11.1).bind fun r13=>((h8 x0.1 r13).bind fun r14=>(bif (decide ((IntKind.wrap .i64 (w11.1+1))>99999999)) then some (2,(r14.2,(x0.2.set ((x0.2).length-1) w11))) else ((h2 (IntKind.wrap .i64 (w11.1+1))).bind fun r15=>((h3 r14.2 r15 []).bind fun r16=>(bif (r16.1 !=0) then some (2,(r16.2,(x0.2.set ((x0.2).length-1) w11))) else (bif yK (((x0.2.set ((x0.2).length-1) w11)).length+(([((IntKind.wrap .i64 (w11.1+1)),0, [], [])]:List SG)).length) 8 then ((h4 [] x1.1).bind fun r17=>(bif yK ((r17++x1.2)).length 1 then ((h5 1 (r17++x1.2)).bind fun r18=>((h2 (IntKind.wrap .i64 (w11.1+1))).bind fun r19=>((h3 r16.2 r19 r18.1).bind fun r20=>(bif (r20.1 !=0) then some (2,(r20.2,(((x0.2.set ((x0.2).length-1) w11)++([((IntKind.wrap .i64 (w11.1+1)),0, [], [])]:List SG)).set ((((x0.2.set ((x0.2).length-1) w11)).length)+0) ((IntKind.wrap .i64 (w11.1+1)),0, [], [])))) else ((h6 ((IntKind.wrap .i64 (w11.1+1)),(x1.1,([], [])))).bind fun r21=>(bif yK ([(IntKind.wrap .i64 (r21+((r18.1).length:Int)))]).length 8 then ((h7 x1.2).bind fun r22=>(bif yK ([r22]).length 24 then some (0,(r20.2,(((x0.2.set ((x0.2).length-1) w11)++([((IntKind.wrap .i64 (w11.1+1)),0, [], [])]:List SG)).set ((((x0.2.set ((x0.2).length-1) w11)).length)+0) ((IntKind.wrap .i64 (w11.1+1)),x1.1, [(IntKind.wrap .i64 (r21+((r18.1).length:Int)))], [r22])))) else none)) else none)))))) else none)) else none))))))) else ((h4 [] x1.1).bind fun r23=>(bif yK ((r23++x1.2)).length 1 then ((h5 1 (r23++x1.2)).bind fun r24=>((h2 w11.1).bind fun r25=>((h3 x0.1 r25 r24.1).bind fun r26=>(bif (r26.1 !=0) then some (2,(r26.2,(x0.2.set ((x0.2).length-1) w11))) else (bif (((w11.2.2.1).length:Int)==0) then ((h6 (w11.1,(x1.1,w11.2.2))).bind fun r27=>(bif yK ((w11.2.2.1++ [(IntKind.wrap .i64 (r27+((r24.1).length:Int)))])).length 8 then ((h7 x1.2).bind fun r28=>(bif yK ((w11.2.2.2++ [r28])).length 24 then some (0,(r26.2,(x0.2.set ((x0.2).length-1) (w11.1,x1.1,(w11.2.2.1++ [(IntKind.wrap .i64 (r27+((r24.1).length:Int)))]),(w11.2.2.2++ [r28]))))) else none)) else none)) else ((h6 w11).bind fun r29=>(bif yK ((w11.2.2.1++ [(IntKind.wrap .i64 (r29+((r24.1).length:Int)))])).length 8 then ((h7 x1.2).bind fun r30=>(bif yK ((w11.2.2.2++ [r30])).length 24 then some (0,(r26.2,(x0.2.set ((x0.2).length-1) (w11.1,w11.2.1,(w11.2.2.1++ [(IntKind.wrap .i64 (r29+((r24.1).length:Int)))]),(w11.2.2.2++ [r30]))))) else none)) else none))))))) else none)))))) else none)) else (bif Nat.ble (x0.2).length 4611686018427387904 then (bif (Nat.beq (x0.2).length 0) then ((h2 1).bind fun r31=>((h3 x0.1 r31 []).bind fun r32=>(bif (r32.1 !=0) then some (2,(r32.2,x0.2)) else (bif yK ((x0.2).length+(([(1,0, [], [])]:List SG)).length) 8 then ((h4 [] x1.1).bind fun r33=>(bif yK ((r33++x1.2)).length 1 then ((h5 1 (r33++x1.2)).bind fun r34=>((h2 1).bind fun r35=>((h3 r32.2 r35 r34.1).bind fun r36=>(bif (r36.1 !=0) then some (2,(r36.2,((x0.2++([(1,0, [], [])]:List SG)).set (((x0.2).length)+0) (1,0, [], [])))) else ((h6 (1,(x1.1,([], [])))).bind fun r37=>(bif yK ([(IntKind.wrap .i64 (r37+((r34.1).length:Int)))]).length 8 then ((h7 x1.2).bind fun r38=>(bif yK ([r38]).length 24 then some (0,(r36.2,((x0.2++([(1,0, [], [])]:List SG)).set (((x0.2).length)+0) (1,x1.1, [(IntKind.wrap .i64 (r37+((r34.1).length:Int)))], [r38])))) else none)) else none)))))) else none)) else none)))) else ((x0.2[(x0.2).length-1]?).bind fun w39=>((h6 w39).bind fun r40=>(bif (decide (r40>4096)) then ((h2 w39.1).bind fun r41=>((h8 x0.1 r41).bind fun r42=>(bif (decide ((IntKind.wrap .i64 (w39.1+1))>99999999)) then some (2,(r42.2,(x0.2.set ((x0.2).length-1) w39))) else ((h2 (IntKind.wrap .i64 (w39.1+1))).bind fun r43=>((h3 r42.2 r43 []).bind fun r44=>(bif (r44.1 !=0) then some (2,(r44.2,(x0.2.set ((x0.2).length-1) w39))) else (bif yK (((x0.2.set ((x0.2).length-1) w39)).length+(([((IntKind.wrap .i64 (w39.1+1)),0, [], [])]:List SG)).length) 8 then ((h4 [] x1.1).bind fun r45=>(bif yK ((r45++x1.2)).length 1 then ((h5 1 (r45++x1.2)).bind fun r46=>((h2 (IntKind.wrap .i64 (w39.1+1))).bind fun r47=>((h3 r44.2 r47 r46.1).bind fun r48=>(bif (r48.1 !=0) then some (2,(r48.2,(((x0.2.set ((x0.2).length-1) w39)++([((IntKind.wrap .i64 (w39.1+1)),0, [], [])]:List SG)).set ((((x0.2.set ((x0.2).length-1) w39)).length)+0) ((IntKind.wrap .i64 (w39.1+1)),0, [], [])))) else ((h6 ((IntKind.wrap .i64 (w39.1+1)),(x1.1,([], [])))).bind fun r49=>(bif yK ([(IntKind.wrap .i64 (r49+((r46.1).length:Int)))]).length 8 then ((h7 x1.2).bind fun r50=>(bif yK ([r50]).length 24 then some (0,(r48.2,(((x0.2.set ((x0.2).length-1) w39)++([((IntKind.wrap .i64 (w39.1+1)),0, [], [])]:List SG)).set ((((x0.2.set ((x0.2).length-1) w39)).length)+0) ((IntKind.wrap .i64 (w39.1+1)),x1.1, [(IntKind.wrap .i64 (r49+((r46.1).length:Int)))], [r50])))) else none)) else none)))))) else none)) else none))))))) else ((h4 [] x1.1).bind fun r51=>(bif yK ((r51++x1.2)).length 1 then ((h5 1 (r51++x1.2)).bind fun r52=>((h2 w39.1).bind fun r53=>((h3 x0.1 r53 r52.1).bind fun r54=>(bif (r54.1 !=0) then some (2,(r54.2,(x0.2.set ((x0.2).length-1) w39))) else (bif (((w39.2.2.1).length:Int)==0) then ((h6 (w39.1,(x1.1,w39.2.2))).bind fun r55=>(bif yK ((w39.2.2.1++ [(IntKind.wrap .i64 (r55+((r52.1).length:Int)))])).length 8 then ((h7 x1.2).bind fun r56=>(bif yK ((w39.2.2.2++ [r56])).length 24 then some (0,(r54.2,(x0.2.set ((x0.2).length-1) (w39.1,x1.1,(w39.2.2.1++ [(IntKind.wrap .i64 (r55+((r52.1).length:Int)))]),(w39.2.2.2++ [r56]))))) else none)) else none)) else ((h6 w39).bind fun r57=>(bif yK ((w39.2.2.1++ [(IntKind.wrap .i64 (r57+((r52.1).length:Int)))])).length 8 then ((h7 x1.2).bind fun r58=>(bif yK ((w39.2.2.2++ [r58])).length 24 then some (0,(r54.2,(x0.2.set ((x0.2).length-1) (w39.1,w39.2.1,(w39.2.2.1++ [(IntKind.wrap .i64 (r57+((r52.1).length:Int)))]),(w39.2.2.2++ [r58]))))) else none)) else none))))))) else none)))))) else none)))))))
def zOy (k:Nat):zJm:=vR (zJw k) (zHy k) (zPn k) (zPo k) (zSy k) (yL7 k) (zE5 k) (xU k) (zIi k)
def zJ7:zE:=⟨[.lento [.dsk, .segs], .agg (.pair (.int .u64) (.slice (.int .u8)))], [.imm (.int .i64), .backo [.dsk, .segs]],fun k x=>zOy k x.1 x.2⟩
def yA6:zV:=fun _=>none
def yEi:List (Nat×zE):= [(13,zD4),(35,zBj),(36,zPz),(33,zG5),(42,zOo),(44,zNp),(43,yCp),(34,zCs),(39,wK),(26,zEr)]
abbrev zJd:=(List UInt8)→Int→Option (Unit⊕Bool)
def zJf (q:zJd):zJd:=fun v0 v1=>(bif (decide (v1<((v0).length:Int))) then ((at? v0 v1).bind fun c1=>(bif (decide ((c1.toNat:Int)≥97)) then (bif (decide ((c1.toNat:Int)≤122)) then q v0 (IntKind.wrap .i64 (v1+1)) else (bif (decide ((c1.toNat:Int)≥48)) then (bif (decide ((c1.toNat:Int)≤57)) then q v0 (IntKind.wrap .i64 (v1+1)) else (bif ((c1.toNat:Int)==46) then q v0 (IntKind.wrap .i64 (v1+1)) else (bif (!((c1.toNat:Int)==45)) then some (.inr false) else q v0 (IntKind.wrap .i64 (v1+1))))) else (bif ((c1.toNat:Int)==46) then q v0 (IntKind.wrap .i64 (v1+1)) else (bif (!((c1.toNat:Int)==45)) then some (.inr false) else q v0 (IntKind.wrap .i64 (v1+1)))))) else (bif (decide ((c1.toNat:Int)≥48)) then (bif (decide ((c1.toNat:Int)≤57)) then q v0 (IntKind.wrap .i64 (v1+1)) else (bif ((c1.toNat:Int)==46) then q v0 (IntKind.wrap .i64 (v1+1)) else (bif (!((c1.toNat:Int)==45)) then some (.inr false) else q v0 (IntKind.wrap .i64 (v1+1))))) else (bif ((c1.toNat:Int)==46) then q v0 (IntKind.wrap .i64 (v1+1)) else (bif (!((c1.toNat:Int)==45)) then some (.inr false) else q v0 (IntKind.wrap .i64 (v1+1))))))) else some (.inl ()))
def zFg:Nat→zJd
 |0=>fun _ _=>none
 |k+1=>zJf (zFg k)
def xDf:wV:=⟨⟨[], [.val 0 .str, .val 3 (.int .i64)]⟩, [(.exit 0,⟨[], []⟩),(.ret,⟨[], [.val 2 .bool]⟩)],fun k x=>zFg k x.1 x.2⟩
abbrev zZa:=(List UInt8)→Option Bool
def zZf (h0:zJd):zZa:=fun x0=>(bif (decide (((x0).length:Int)<1)) then some false else (bif (decide (((x0).length:Int)>32)) then some false else ((h0 x0 0).bind fun o2=>Sum.elim (fun a3=>some true) (fun b4=>some b4) o2)))
def yHt (k:Nat):zZa:=zZf (zFg k)
def zZj:zE:=⟨[.imm .str], [.imm .bool],fun k x=>yHt k x⟩
def yKc:zV:=fun n=>cond (Nat.beq n 14) (some xDf) (none)
def yOa:List (Nat×zE):= []
abbrev zL2:=(List ((List UInt8)×(List Int)×Int))→(List Int)→Int→((List UInt8)×Int)→Option (((List ((List UInt8)×(List Int)×Int))×(List Int)×Int×(List UInt8)×(List Int)×Int))
def zLa:zL2:=fun v0 v1 v2 v3=>(bif (decide (v2≥0)) then ((at? v0 v2).bind fun e3=>some (v0,v1,v2,e3)) else some (v0,v1,v2,(v3.1, [],v3.2)))
def zPb (k:Nat):zL2:=zLa
def yX6:wV:=⟨⟨[(9, .ptr 500000 0)], [.val 0 (.slice (.pair .str (.pair (.slice (.int .u8)) (.int .i64)))), .val 2 (.slice (.int .u8)), .val 8 (.int .i64), .cells 500000 [.dyn .str, .stat (.nils), .dyn (.int .i64)]]⟩, [(.normal,⟨[(9, .ptr 500000 0)], [.val 0 (.slice (.pair .str (.pair (.slice (.int .u8)) (.int .i64)))), .val 2 (.slice (.int .u8)), .val 8 (.int .i64), .cells 500000 [.dyn .str, .dyn (.slice (.int .u8)), .dyn (.int .i64)]]⟩)],fun k x=>zPb k x.1 x.2.1 x.2.2.1 x.2.2.2⟩
abbrev zOk:=(List ((List UInt8)×(List Int)×Int))→(List UInt8)→(List Int)→Option ((List ((List UInt8)×(List Int)×Int))×Int)
def zUd (h0:zZa) (h1:zG0) (h2:zL2) (h3:zRm):zOk:=fun x0 x1 x2=>((h0 x1).bind fun r1=>(bif (!r1) then some (x0,1) else ((h1 x0 x1).bind fun r2=>((h2 x0 x2 r2 (x1,0)).bind fun o4=>(bif (decide (o4.2.2.1<0)) then (bif (decide (((o4.1).length:Int)≥64)) then some (o4.1,2) else (bif (decide ((IntKind.wrap .i64 (((o4.2.2.2.2.1).length:Int)+((o4.2.1).length:Int)))>65536)) then some (o4.1,2) else (bif yK (([]++o4.2.2.2.2.1)).length 1 then (bif yK ((([]++o4.2.2.2.2.1)++o4.2.1)).length 1 then ((h3 o4.1 (o4.2.2.2.1,((([]++o4.2.2.2.2.1)++o4.2.1),o4.2.2.2.2.2))).bind fun r5=>some (r5,0)) else none) else none))) else (bif (decide ((IntKind.wrap .i64 (((o4.2.2.2.2.1).length:Int)+((o4.2.1).length:Int)))>65536)) then some (o4.1,2) else (bif yK (([]++o4.2.2.2.2.1)).length 1 then (bif yK ((([]++o4.2.2.2.2.1)++o4.2.1)).length 1 then ((h3 o4.1 (o4.2.2.2.1,((([]++o4.2.2.2.2.1)++o4.2.1),o4.2.2.2.2.2))).bind fun r6=>some (r6,0)) else none) else none)))))))
def zTt (k:Nat):zOk:=zUd (yHt k) (zM2 k) (zPb k) (zXs k)
def zVd:zE:=⟨[.imm (.slice (.pair .str (.pair (.slice (.int .u8)) (.int .i64)))), .imm .str, .imm (.slice (.int .u8))], [.imm (.slice (.pair .str (.pair (.slice (.int .u8)) (.int .i64)))), .imm (.int .i64)],fun k x=>zTt k x.1 x.2.1 x.2.2⟩
def yEr:zV:=fun n=>cond (Nat.beq n 14) (some yX6) (none)
def yI5:List (Nat×zE):= [(85,zZj),(82,zE7),(83,zOu)]
abbrev zWi:=Int→(List Int)→Option (List Int)
def zWu (h0:zTj) (h1:zDi):zWi:=fun x0 x1=>(bif yK (([x0]++x1)).length 1 then ((h0 ([x0]++x1)).bind fun r1=>((h1 (IntKind.wrap .u64 ((r1).length:Int))).bind fun r2=>(bif yK ((r2++r1)).length 1 then some (r2++r1) else none))) else none)
def yCx (k:Nat):zWi:=zWu (yAe k) (zG3 k)
def zXk:zE:=⟨[.imm (.int .u8), .imm (.slice (.int .u8))], [.own (.int .u8)],fun k x=>yCx k x.1 x.2⟩
def yFn:zV:=fun _=>none
def yLc:List (Nat×zE):= [(86,zR4),(56,zCo)]
abbrev zL3:=(List ((List UInt8)×(List Int)×Int))→Int→(Int×List Int)→(List (Int×(List (Int×List Int))×List Int))→Option (((List ((List UInt8)×(List Int)×Int))×Int×Int×List Int)⊕((List ((List UInt8)×(List Int)×Int))×Int))
def zCc (h0:zOn) (h1:zTc) (h2:zOk) (h3:zTl):zL3:=fun v0 v1 v2 v3=>(bif (((v3).length:Int)==0) then (bif (decide (v1>0)) then ((h0 v1).bind fun r9=>((h1 v0 r9).bind fun r10=>(bif (decide ((IntKind.wrap .i64 (v1+1))>99999999)) then some (.inr (r10.1,2)) else ((h0 (IntKind.wrap .i64 (v1+1))).bind fun r11=>((h2 r10.1 r11 []).bind fun r12=>(bif (r12.2 !=0) then some (.inr (r12.1,2)) else some (.inl (r12.1,(IntKind.wrap .i64 (v1+1)),v2)))))))) else (bif (decide ((IntKind.wrap .i64 (v1+1))>99999999)) then some (.inr (v0,2)) else ((h0 (IntKind.wrap .i64 (v1+1))).bind fun r13=>((h2 v0 r13 []).bind fun r14=>(bif (r14.2 !=0) then some (.inr (r14.1,2)) else some (.inl (r14.1,(IntKind.wrap .i64 (v1+1)),v2))))))) else (bif (decide (0≤(IntKind.wrap .i64 (((v3).length:Int)-1)))&&decide ((IntKind.wrap .i64 (((v3).length:Int)-1))<(v3).length)) then ((v3[Int.toNat (IntKind.wrap .i64 (((v3).length:Int)-1))]?).bind fun w15=>((h3 w15).bind fun r16=>(bif (decide (r16>4096)) then (bif (decide (v1>0)) then ((h0 v1).bind fun r17=>((h1 v0 r17).bind fun r18=>(bif (decide ((IntKind.wrap .i64 (v1+1))>99999999)) then some (.inr (r18.1,2)) else ((h0 (IntKind.wrap .i64 (v1+1))).bind fun r19=>((h2 r18.1 r19 []).bind fun r20=>(bif (r20.2 !=0) then some (.inr (r20.1,2)) else some (.inl (r20.1,(IntKind.wrap .i64 (v1+1)),v2)))))))) else (bif (decide ((IntKind.wrap .i64 (v1+1))>99999999)) then some (.inr (v0,2)) else ((h0 (IntKind.wrap .i64 (v1+1))).bind fun r21=>((h2 v0 r21 []).bind fun r22=>(bif (r22.2 !=0) then some (.inr (r22.1,2)) else some (.inl (r22.1,(IntKind.wrap .i64 (v1+1)),v2))))))) else some (.inl (v0,v1,v2))))) else none))
def zO6 (k:Nat):zL3:=zCc (zT3 k) (zZs k) (zTt k) (yAz k)
def yZo:wV:=⟨⟨[(3, .ptr 500000 0),(7, .sref 500001)], [.val 0 (.slice (.pair .str (.pair (.slice (.int .u8)) (.int .i64)))), .val 8 (.int .i64), .cells 500000 [.dyn (.int .u64), .dyn (.slice (.int .u8))], .arr 500001 (.pair (.int .i64) (.pair (.slice (.pair (.int .u64) (.slice (.int .u8)))) (.slice (.int .i64))))]⟩, [(.normal,⟨[(3, .ptr 500000 0)], [.val 0 (.slice (.pair .str (.pair (.slice (.int .u8)) (.int .i64)))), .val 8 (.int .i64), .cells 500000 [.dyn (.int .u64), .dyn (.slice (.int .u8))]]⟩),(.ret,⟨[], [.val 4 (.slice (.pair .str (.pair (.slice (.int .u8)) (.int .i64)))), .val 5 (.int .i64)]⟩)],fun k x=>zO6 k x.1 x.2.1 x.2.2.1 x.2.2.2⟩
abbrev zLo:=(List ((List UInt8)×(List Int)×Int))→Int→(Int×List Int)→(List (Int×(List (Int×List Int))×List Int))→Option (((List ((List UInt8)×(List Int)×Int))×Int×(Int×List Int)×List (Int×(List (Int×List Int))×List Int)))
def zMc (h0:zEx):zLo:=fun v0 v1 v2 v3=>(bif (decide (((v3).length:Int)>0)) then (bif (decide (0≤(IntKind.wrap .i64 (((v3).length:Int)-1)))&&decide ((IntKind.wrap .i64 (((v3).length:Int)-1))<(v3).length)) then ((v3[Int.toNat (IntKind.wrap .i64 (((v3).length:Int)-1))]?).bind fun w5=>((at? v0 w5.1).bind fun e6=>((h0 e6.1).bind fun r7=>some (v0,r7,v2,v3)))) else none) else some (v0,v1,v2,v3))
def zP1 (k:Nat):zLo:=zMc (zJa k)
def yYx:wV:=⟨⟨[(3, .ptr 500000 0),(7, .sref 500001)], [.val 0 (.slice (.pair .str (.pair (.slice (.int .u8)) (.int .i64)))), .val 8 (.int .i64), .cells 500000 [.dyn (.int .u64), .dyn (.slice (.int .u8))], .arr 500001 (.pair (.int .i64) (.pair (.slice (.pair (.int .u64) (.slice (.int .u8)))) (.slice (.int .i64))))]⟩, [(.normal,⟨[(3, .ptr 500000 0),(7, .sref 500001)], [.val 0 (.slice (.pair .str (.pair (.slice (.int .u8)) (.int .i64)))), .val 8 (.int .i64), .cells 500000 [.dyn (.int .u64), .dyn (.slice (.int .u8))], .arr 500001 (.pair (.int .i64) (.pair (.slice (.pair (.int .u64) (.slice (.int .u8)))) (.slice (.int .i64))))]⟩)],fun k x=>zP1 k x.1 x.2.1 x.2.2.1 x.2.2.2⟩
abbrev zLp:=(List ((List UInt8)×(List Int)×Int))→(Int×List Int)→(List (Int×List Int))→Option (((List ((List UInt8)×(List Int)×Int))×Bool×Int×List Int))
def zL9:zLp:=fun v0 v1 v2=>(bif (decide (((v2).length:Int)>0)) then (bif (decide (0≤(IntKind.wrap .i64 (((v2).length:Int)-1)))&&decide ((IntKind.wrap .i64 (((v2).length:Int)-1))<(v2).length)) then ((v2[Int.toNat (IntKind.wrap .i64 (((v2).length:Int)-1))]?).bind fun w2=>some (v0,(v1.1 !=(IntKind.wrap .u64 (w2.1+1))),v1)) else none) else some (v0,false,v1))
def zO9 (k:Nat):zLp:=zL9
def yZc:wV:=⟨⟨[(3, .ptr 500000 0),(6, .sref 500001)], [.val 0 (.slice (.pair .str (.pair (.slice (.int .u8)) (.int .i64)))), .cells 500000 [.dyn (.int .u64), .dyn (.slice (.int .u8))], .arr 500001 (.pair (.int .u64) (.slice (.int .u8)))]⟩, [(.normal,⟨[(3, .ptr 500000 0)], [.val 0 (.slice (.pair .str (.pair (.slice (.int .u8)) (.int .i64)))), .val 39 .bool, .cells 500000 [.dyn (.int .u64), .dyn (.slice (.int .u8))]]⟩)],fun k x=>zO9 k x.1 x.2.1 x.2.2⟩
abbrev zUs:=(List ((List UInt8)×(List Int)×Int))→(Int×List Int)→Option ((List ((List UInt8)×(List Int)×Int))×Int)
def zFd (h0:zTr) (h1:zLp) (h2:kF) (h3:zLo) (h4:zL3) (h5:zDi) (h6:zWi) (h7:zOn) (h8:zOk):zUs:=fun x0 x1=>((h0 x0).bind fun r1=>(bif (x1.1==0) then some (x0,1) else (bif (decide (((x1.2).length:Int)>4096)) then some (x0,3) else ((h1 x0 x1 r1).bind fun o3=>(bif o3.2.1 then some (o3.1,12) else ((h2 o3.1).bind fun r4=>((h3 o3.1 0 o3.2.2 r4).bind fun o8=>((h4 o8.1 o8.2.1 o8.2.2.1 o8.2.2.2).bind fun o23=>Sum.elim (fun a24=>((h5 a24.2.2.1).bind fun r26=>(bif yK ((r26++a24.2.2.2)).length 1 then ((h6 1 (r26++a24.2.2.2)).bind fun r27=>((h7 a24.2.1).bind fun r28=>((h8 a24.1 r28 r27).bind fun r29=>(bif (r29.2 !=0) then some (a24.1,2) else some (r29.1,0))))) else none))) (fun b25=>some b25) o23))))))))
def zZe (k:Nat):zUs:=zFd (yAm k) (zO9 k) (zAt k) (zP1 k) (zO6 k) (zG3 k) (yCx k) (zT3 k) (zTt k)
def zU7:zE:=⟨[.imm (.slice (.pair .str (.pair (.slice (.int .u8)) (.int .i64)))), .agg (.pair (.int .u64) (.slice (.int .u8)))], [.imm (.slice (.pair .str (.pair (.slice (.int .u8)) (.int .i64)))), .imm (.int .i64)],fun k x=>zZe k x.1 x.2⟩
def yEy:zV:=fun n=>cond (Nat.beq n 38) (some yZo) (cond (Nat.beq n 32) (some yYx) (cond (Nat.beq n 21) (some yZc) (none)))
def yJe:List (Nat×zE):= [(53,zRy),(45,jM),(50,zHn),(51,zRw),(46,zSk),(54,zVd),(56,zCo),(55,zXk),(52,zR5)]
abbrev zWk:=Option Bool
def yFb (h0:yAd) (h1:zUc) (h2:zJm) (h3:zNv) (h4:zHg) (h5:zKd) (h6:zL4) (h7:zFc):zWk:=((h0).bind fun r1=>((h1 r1).bind fun r2=>((r2.1).elim ((bif (r2.2.1 !=0) then some false else some false)) fun w3=>(bif (r2.2.1 !=0) then some false else (bif !([97]).isEmpty then ((h2 (r2.2.2,w3.2) (5, [97])).bind fun r4=>(bif (r4.1 !=0) then some false else ((h3 r4.2).bind fun r5=>((h2 r5 (6, [])).bind fun r6=>((h4 r6.2.1 []).bind fun r7=>((h1 r7).bind fun r8=>((r8.1).elim ((bif (r8.2.1 !=0) then some false else some false)) fun w9=>(bif (r8.2.1 !=0) then some false else ((h5 (true,(w9.2.map some)) 5).bind fun r10=>(bif r10.2 then (bif ((xZ r10.1)== [97]) then ((h6 (true,(w9.2.map some))).bind fun r11=>(bif (r11==5) then ((h7 (true,(w9.2.map some))).bind fun r12=>some (r12==5)) else some false)) else some false) else some false)))))))))) else none)))))
def yDc (k:Nat):zWk:=yFb (yJa k) (yCv k) (zOy k) (zSv k) (zKv k) (zRf k) (zRa k) (zJw k)
def zXd:zE:=⟨[], [.imm .bool],fun k x=>yDc k⟩
def yFq:zV:=fun _=>none
def yK3:List (Nat×zE):= [(6,zWt),(7,zWr),(14,zJ7),(9,zNr),(11,zHz),(12,zP4),(25,zKt),(13,zD4)]
abbrev zJ2:=(List ((List UInt8)×(List Int)×Int))→(List (Int×Int×Bool×(List Int)×List Int))→Int→Unit→Unit→(Int×Int×Bool×(List Int)×List Int)→FL→(List SG)→Option (((List ((List UInt8)×(List Int)×Int))×(List (Int×Int×Bool×(List Int)×List Int))×Int×Unit×Unit×(Int×Int×Bool×(List Int)×List Int)×FL×List SG))
def zJ6 (h0:zFc):zJ2:=fun v0 v1 v2 v3 v4 v5 v6 v7=>(bif v5.2.2.1 then ((h0 (true,(v7.map some))).bind fun r6=>some (v0,v1,v2,(),(),(v5.1,(IntKind.wrap .u64 (r6+1)),v5.2.2.1,v5.2.2.2.1,v5.2.2.2.2),v6,v7)) else some (v0,v1,v2,(),(),v5,v6,v7))
def zNe (k:Nat):zJ2:=zJ6 (zJw k)
def yWa:wV:=⟨⟨[(3, .ptr 500000 0),(4, .ptr 500001 0),(8, .ptr 500003 0)], [.val 6 (.slice (.pair .str (.pair (.slice (.int .u8)) (.int .i64)))), .val 0 (.slice (.pair (.int .i64) (.pair (.int .u64) (.pair .bool (.pair (.slice (.int .u8)) (.slice (.int .i64))))))), .val 7 (.int .i64), .cells 500000 [.stat (.mref 500004)], .cells 500001 [.stat (.ptr 500000 0), .stat (.dref 500005)], .cells 500003 [.dyn (.int .i64), .dyn (.int .u64), .dyn .bool, .dyn (.slice (.int .u8)), .dyn (.slice (.int .i64))], .pm 500004, .segs 500005]⟩, [(.normal,⟨[(3, .ptr 500000 0),(4, .ptr 500001 0),(8, .ptr 500003 0)], [.val 6 (.slice (.pair .str (.pair (.slice (.int .u8)) (.int .i64)))), .val 0 (.slice (.pair (.int .i64) (.pair (.int .u64) (.pair .bool (.pair (.slice (.int .u8)) (.slice (.int .i64))))))), .val 7 (.int .i64), .cells 500000 [.stat (.mref 500004)], .cells 500001 [.stat (.ptr 500000 0), .stat (.dref 500005)], .cells 500003 [.dyn (.int .i64), .dyn (.int .u64), .dyn .bool, .dyn (.slice (.int .u8)), .dyn (.slice (.int .i64))], .pm 500004, .segs 500005]⟩)],fun k x=>zNe k x.1 x.2.1 x.2.2.1 x.2.2.2.1 x.2.2.2.2.1 x.2.2.2.2.2.1 x.2.2.2.2.2.2.1 x.2.2.2.2.2.2.2⟩
abbrev zEs:=(List ((List UInt8)×(List Int)×Int))→(List (Int×Int×Bool×(List Int)×List Int))→Int→Unit→Unit→FL→(List SG)→Option (Unit⊕Bool)
def zEk (h0:zJ2) (h1:zNv) (h2:yA5) (h3:yHa) (h4:zM7) (h5:zR3) (h6:zNd) (h7:zSn) (h8:zHg) (h9:zWl) (h10:zYx) (h11:zUc) (h12:zJm) (h13:zUs) (q:zEs):zEs:=fun v0 v1 v2 v3 v4 v5 v6=>(bif (decide (v2<((v1).length:Int))) then ((at? v1 v2).bind fun e5=>((h0 v0 v1 v2 () () e5 v5 v6).bind fun o7=>(bif (o7.2.2.2.2.2.1.1==1) then ((h1 o7.2.2.2.2.2.2).bind fun r8=>((h2 o7.1).bind fun r9=>((h3 (true,(r8.2.map some)) r8.1 r9).bind fun r10=>(bif (!r10.1) then some (.inr false) else q r9 o7.2.1 (IntKind.wrap .i64 (o7.2.2.1+1)) () () r10.2 r8.2)))) else (bif (o7.2.2.2.2.2.1.1==2) then ((h4 o7.2.2.2.2.2.2 o7.2.2.2.2.2.1.2.1).bind fun r11=>((h5 o7.1 o7.2.2.2.2.2.1.2.1).bind fun r12=>(bif (r11.1 !=r12.2) then some (.inr false) else ((h3 (true,(r11.2.2.map some)) r11.2.1 r12.1).bind fun r13=>(bif (!r13.1) then some (.inr false) else q r12.1 o7.2.1 (IntKind.wrap .i64 (o7.2.2.1+1)) () () r13.2 r11.2.2))))) else (bif (o7.2.2.2.2.2.1.1==3) then ((h6 o7.2.2.2.2.2.2 o7.2.2.2.2.2.1.2.1).bind fun r14=>((h7 o7.1 o7.2.2.2.2.2.1.2.1).bind fun r15=>(bif (r14.1 !=r15.2) then some (.inr false) else ((h3 (true,(r14.2.2.map some)) r14.2.1 r15.1).bind fun r16=>(bif (!r16.1) then some (.inr false) else q r15.1 o7.2.1 (IntKind.wrap .i64 (o7.2.2.1+1)) () () r16.2 r14.2.2))))) else (bif (o7.2.2.2.2.2.1.1==4) then ((h8 o7.2.2.2.2.2.2.1 o7.2.2.2.2.2.1.2.2.2.2).bind fun r17=>((h9 o7.1 o7.2.2.2.2.2.1.2.2.2.2).bind fun r18=>((h10 r18).bind fun r19=>((h11 r17).bind fun r20=>((r20.1).elim (some (.inr false)) fun w21=>(bif (r20.2.1 !=0) then some (.inr false) else ((h3 (true,(w21.2.map some)) r20.2.2 r19).bind fun r22=>(bif (!r22.1) then some (.inr false) else q r19 o7.2.1 (IntKind.wrap .i64 (o7.2.2.1+1)) () () r22.2 w21.2)))))))) else ((h12 o7.2.2.2.2.2.2 (o7.2.2.2.2.2.1.2.1,o7.2.2.2.2.2.1.2.2.2.1)).bind fun r23=>((h13 o7.1 (o7.2.2.2.2.2.1.2.1,o7.2.2.2.2.2.1.2.2.2.1)).bind fun r24=>(bif (r23.1 !=r24.2) then some (.inr false) else ((h3 (true,(r23.2.2.map some)) r23.2.1 r24.1).bind fun r25=>(bif (!r25.1) then some (.inr false) else q r24.1 o7.2.1 (IntKind.wrap .i64 (o7.2.2.1+1)) () () r25.2 r23.2.2))))))))))) else some (.inl ()))
def zBc:Nat→zEs
 |0=>fun _ _ _ _ _ _ _=>none
 |k+1=>zEk (zNe k) (zSv k) (yHl k) (yP2 k) (zSg k) (zWh k) (zR1 k) (zWa k) (zKv k) (yDj k) (yHc k) (yCv k) (zOy k) (zZe k) (zBc k)
def yWl:wV:=⟨⟨[(3, .ptr 500000 0),(4, .ptr 500001 0)], [.val 6 (.slice (.pair .str (.pair (.slice (.int .u8)) (.int .i64)))), .val 0 (.slice (.pair (.int .i64) (.pair (.int .u64) (.pair .bool (.pair (.slice (.int .u8)) (.slice (.int .i64))))))), .val 7 (.int .i64), .cells 500000 [.stat (.mref 500003)], .cells 500001 [.stat (.ptr 500000 0), .stat (.dref 500004)], .pm 500003, .segs 500004]⟩, [(.exit 0,⟨[], []⟩),(.ret,⟨[], [.val 2 .bool]⟩)],fun k x=>zBc k x.1 x.2.1 x.2.2.1 x.2.2.2.1 x.2.2.2.2.1 x.2.2.2.2.2.1 x.2.2.2.2.2.2⟩
abbrev zZu:=(List (Int×Int×Bool×(List Int)×List Int))→Option Bool
def zRz (h0:yAd) (h1:zUc) (h2:zWe) (h3:zEs) (h4:zWk):zZu:=fun x0=>((h0).bind fun r1=>((h1 r1).bind fun r2=>((r2.1).elim ((bif (r2.2.1 !=0) then some false else some false)) fun w3=>(bif (r2.2.1 !=0) then some false else ((h2 x0).bind fun r4=>((h3 [] r4 0 () () r2.2.2 w3.2).bind fun o26=>Sum.elim (fun a27=>((h4).bind fun r29=>some r29)) (fun b28=>some b28) o26))))))
def zWb (k:Nat):zZu:=zRz (yJa k) (yCv k) (yDb k) (zBc k) (yDc k)
def zS3:zE:=⟨[.imm (.slice (.pair (.int .i64) (.pair (.int .u64) (.pair .bool (.pair (.slice (.int .u8)) (.slice (.int .i64)))))))], [.imm .bool],fun k x=>zWb k x⟩
def yBx:zV:=fun n=>cond (Nat.beq n 33) (some yWa) (cond (Nat.beq n 22) (some yWl) (none))
def yFx:List (Nat×zE):= [(6,zWt),(7,zWr),(8,zXa),(13,zD4),(9,zNr),(16,yAa),(23,yFg),(10,zPl),(17,zSx),(18,zPf),(19,zTg),(11,zHz),(21,zW8),(20,zZ1),(14,zJ7),(22,zU7),(15,zXd)]
end Go.Proofs.YtlhifcknhgmidaaGreatDoor.gg
