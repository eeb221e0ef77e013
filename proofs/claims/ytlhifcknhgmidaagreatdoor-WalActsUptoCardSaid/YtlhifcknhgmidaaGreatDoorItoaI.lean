/- A part of our own proof. -/
import Derived.Test.YtlhifcknhgmidaaGreatDoorK5
import Derived.Shelf.Strconv.Itoa3
import Derived.Lib.ItoaLen
namespace Go.GG
open Go.Shelf Go.RowKit Go.Proofs
def yQz (n:Int):Option (List UInt8):=cond (decide (-9223372036854775808≤n)&&decide (n≤9223372036854775807)) (some (Lib.itoa n)) none
def yYc:zE:=⟨[.imm (.int .i64)], [.imm .str],fun _ x=>yQz x⟩
theorem xTn [yG] {P:Program} {ρ:Ren} (L:LaysM.n171 P ρ) {g:Nat} (hg:P.globalNamed "internal/strconv.uint64pow10" =some g) (ht:yG.at? g=some (.u64,Lib.pow10Tab)) (hr:yBy P (ρ.f 171)):zQ P (ρ.f 171) yYc:=by
 refine ⟨hr, ?_⟩
 intro k (x:Int) (y:List UInt8) hF w ok0 vals hok htb hp _ _
 replace hF:yQz x=some y:=hF
 unfold yQz at hF
 have hc:(decide (-9223372036854775808≤x)&&decide (x≤9223372036854775807))=true:=by
  cases hh:(decide (-9223372036854775808≤x)&&decide (x≤9223372036854775807)) with
  |true=>rfl
  |false=>rw [hh] at hF;cases hF
 rw [hc] at hF
 simp only [cond_true,Option.some.injEq] at hF
 simp only [Bool.and_eq_true,decide_eq_true_eq] at hc
 obtain ⟨v,vs,rfl,hv,hvs⟩:=hp
 obtain rfl:vs= []:=hvs
 have hv:v= .int .i64 x:=by
  have h: [v]= [.int .i64 x]:=hv
  simpa using h
 subst hv
 have htab:Lib.TabIs P w "internal/strconv.uint64pow10" .u64 Lib.pow10Tab:=by
  obtain ⟨_,e,fr,h⟩:=htb g _ _ ht
  unfold Lib.TabIs World.var?
  rw [hg]
  simp [h]
 refine (Any.strconv_Itoa L x hc.1 hc.2 w htab).mono ?_
 rintro e w' ⟨rfl,n,os,rfl⟩
 exact ⟨[.string ⟨(Lib.itoa x).toArray⟩],rfl,kV.of_below ⟨rfl,rfl,rfl,by simp [Sort.grow,World.drewN],fun b hb=>by simp only [Sort.grow,World.drewN];rw [Array.getElem?_append_left hb]⟩,List.nodup_nil,by simp [yF,yYc],⟨_, [],by rw [←hF];rfl,rfl,rfl,rfl⟩⟩
theorem xR0 {n:Int} (h0: -9223372036854775808≤n) (h1:n≤9223372036854775807):yQz n=some (Lib.itoa n):=by
 unfold yQz
 rw [decide_eq_true h0,decide_eq_true h1];rfl
end Go.GG
