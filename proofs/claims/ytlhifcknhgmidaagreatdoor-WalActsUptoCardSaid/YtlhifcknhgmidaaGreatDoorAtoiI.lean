/- A part of our own proof. -/
import Derived.Test.YtlhifcknhgmidaaGreatDoorK5
import Derived.Shelf.Strconv.Atoi
import Derived.Shelf.Strings.Repeat
import Derived.Lib.SmallJoins
namespace Go.GG
open Go.Shelf Go.RowKit Go.Proofs
def yVs (s:List UInt8):Option (Int×Unit):=cond (decide (s.length≤18)) ((Lib.atoi s).map fun n=>(n,())) none
def yYd:zE:=⟨[.imm .str], [.imm (.int .i64), .nili],fun _ x=>yVs x⟩
theorem xTs [yG] {P:Program} {ρ:Ren} (L:Lays.n172 P ρ) (hr:yBy P (ρ.f 172)):zQ P (ρ.f 172) yYd:=by
 refine ⟨hr, ?_⟩
 intro k (x:List UInt8) (y:Int×Unit) hF w ok0 vals hok htb hp _ _
 replace hF:yVs x=some y:=hF
 unfold yVs at hF
 cases hc:decide (x.length≤18) with
 |false=>rw [hc] at hF;cases hF
 |true=>
 rw [hc] at hF
 simp only [cond_true,Option.map_eq_some_iff] at hF
 obtain ⟨n,hn,rfl⟩:=hF
 obtain ⟨v,vs,rfl,hv,hvs⟩:=hp
 obtain rfl:vs= []:=hvs
 have hv:v= .string ⟨x.toArray⟩:=by
  have h: [v]= [Value.string ⟨x.toArray⟩]:=hv
  simpa using h
 subst hv
 refine (Any.strconv_Atoi L ⟨x.toArray⟩ n (by simpa [ByteArray.size] using of_decide_eq_true hc) (by simpa using hn) w).mono ?_
 rintro e w' ⟨rfl,t,rfl⟩
 exact ⟨[.int .i64 n, .nilIface],rfl,kV.of_below (Go.Joins.below_bytesWorld _ _ _ _ (Nat.le_refl _)),List.nodup_nil,by simp [yF,yYd],⟨_,_,rfl,rfl,⟨_, [],rfl,rfl,rfl,rfl⟩⟩⟩
def yH9 (s:List UInt8) (n:Int):Option (List UInt8):=cond (decide (0≤n)&&decide (n≤1000)&&decide (s.length≤1000000)) (some (Lib.repeatL s n.toNat)) none
def yQv:zE:=⟨[.imm .str, .imm (.int .i64)], [.imm .str],fun _ x=>yH9 x.1 x.2⟩
theorem xQo [yG] {P:Program} {ρ:Ren} (L:Lays.n105 P ρ) (X:Builder.Extra P ρ) (hr:yBy P (ρ.f 105)):zQ P (ρ.f 105) yQv:=by
 refine ⟨hr, ?_⟩
 intro k (x:List UInt8×Int) (y:List UInt8) hF w ok0 vals hok _ hp _ _
 obtain ⟨s,n⟩:=x
 replace hF:yH9 s n=some y:=hF
 unfold yH9 at hF
 cases hc:(decide (0≤n)&&decide (n≤1000)&&decide (s.length≤1000000)) with
 |false=>rw [hc] at hF;cases hF
 |true=>
 rw [hc] at hF
 simp only [cond_true,Option.some.injEq] at hF
 subst hF
 simp only [Bool.and_eq_true,decide_eq_true_eq] at hc
 obtain ⟨⟨h1,h2⟩,h3⟩:=hc
 obtain ⟨v1,vs,rfl,hv1,v2,vs',rfl,hv2,hn⟩:=hp
 simp only [zTy] at hn;subst hn
 have e1:v1= .string ⟨s.toArray⟩:=by
  have h: [v1]= [Value.string ⟨s.toArray⟩]:=hv1
  simpa using h
 have e2:v2= .int .i64 (n.toNat:Int):=by
  have h: [v2]= [Value.int .i64 n]:=hv2
  simp only [List.cons.injEq,and_true] at h
  rw [h];congr 1;omega
 subst e1;subst e2
 refine (Any.strings_Repeat L X ⟨s.toArray⟩ n.toNat w (by omega) (by
  have:(ByteArray.mk s.toArray).size=s.length:=by simp [ByteArray.size]
  rw [this]
  have h5:s.length*n.toNat≤1000000*1000:=Nat.mul_le_mul h3 (by omega)
  omega)).mono ?_
 rintro e w' ⟨rfl,hb⟩
 refine ⟨[.string ⟨(Lib.repeatL s n.toNat).toArray⟩],by simp [yQc],kV.of_below hb,List.nodup_nil,by simp [yF,yQv], ?_⟩
 exact ⟨_, [],rfl,rfl,rfl,rfl⟩
abbrev zNi:T:= .pair .str (.pair (.slice (.int .u8)) (.int .i64))
end Go.GG
