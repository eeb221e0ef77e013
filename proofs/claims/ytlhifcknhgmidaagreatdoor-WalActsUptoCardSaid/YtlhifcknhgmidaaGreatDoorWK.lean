/- A part of our own proof. -/
import Derived.Test.YtlhifcknhgmidaaGreatDoorWJ
open Go Go.GG Go.Proofs
set_option linter.unusedVariables false
namespace Go.Proofs.YtlhifcknhgmidaaGreatDoor.gg
def yZj (k n:Nat):List Int:=(dig k n).map fun b=>(b.toNat:Int)
theorem xP1 (k n:Nat):yZj (k+1) n=yZj k (n/10)++ [((48+n % 10:Nat):Int)]:=by
 unfold yZj
 rw [dig,List.map_append]
 simp [yH4]
theorem xEr:∀(k n:Nat) (head mid tail:List Int),head.length=4→mid.length=k→k≤8→tail.length=8-k→n<100000000→
 zId (n:Int) ((3+k:Nat):Int) (head++mid++tail)=some (head++yZj k n++tail)
 |0,n,head,mid,tail,h1,h2,h3,h4,h5=>by
  obtain rfl:=List.length_eq_zero_iff.1 h2
  rw [yJy];unfold zLr;rw [decide_eq_false (by omega:¬((3+0:Nat):Int)>3),cond_false]
  rfl
 |k+1,n,head,mid,tail,h1,h2,h3,h4,h5=>by
  rcases List.eq_nil_or_concat mid with rfl|⟨mid',x,rfl⟩
  ·simp at h2
  ·rw [List.concat_eq_append] at h2 ⊢
   have hm:mid'.length=k:=by simpa using h2
   have hl:(head++(mid'++ [x])++tail).length=12:=by simp;omega
   have hsplit:head++(mid'++ [x])++tail=(head++mid')++x::tail:=by simp
   have hget:(head++(mid'++ [x])++tail)[3+(k+1)]? =some x:=by
    rw [hsplit,List.getElem?_append_right (by simp;omega)]
    have:3+(k+1)-(head++mid').length=0:=by simp;omega
    rw [this];rfl
   have hset:∀y,(head++(mid'++ [x])++tail).set (3+(k+1)) y=head++mid'++y::tail:=by
    intro y
    rw [hsplit,List.set_append_right _ _ (by simp;omega)]
    have:3+(k+1)-(head++mid').length=0:=by simp;omega
    rw [this];rfl
   have e1:IntKind.wrap .i64 (Int.tdiv (n:Int) 10)=((n/10:Nat):Int):=by
    rw [Int.tdiv_eq_ediv_of_nonneg (by omega),yQ (by omega) (by omega)];omega
   have e2:IntKind.wrap .u8 (IntKind.wrap .i64 (48+Int.tmod (n:Int) 10))=((48+n % 10:Nat):Int):=by
    rw [Int.tmod_eq_emod_of_nonneg (by omega),yQ (by omega) (by omega),wrap_u8];omega
   have e3:IntKind.wrap .i64 (((3+(k+1):Nat):Int)-1)=((3+k:Nat):Int):=by rw [yQ (by omega) (by omega)];omega
   rw [yJy];unfold zLr;rw [decide_eq_true (by omega:((3+(k+1):Nat):Int)>3),cond_true,decide_eq_true (by omega:(0:Int)≤((3+(k+1):Nat):Int)),hl,decide_eq_true (by omega:((3+(k+1):Nat):Int)<((12:Nat):Int)),yYe,hget,Int.toNat_natCast,hset,e1,e2,e3]
   simp only [Bool.and_self,cond_true,Option.bind_some]
   rw [xEr k (n/10) head mid' _ h1 hm (by omega) (by simp;omega) (by omega),xP1]
   simp
theorem xK6 (l:Str):xZ (l.map fun b=>(b.toNat:Int))=l:=by
 unfold xZ
 rw [List.map_map]
 conv=>rhs;rw [←List.map_id l]
 apply List.map_congr_left
 intro b _
 simp
theorem zXi {n:Nat} (h:n<100000000):zFn (n:Int)=some (nm n):=by
 unfold zFn zZ0
 have:=xEr 8 n [119,97,108,45] [48,48,48,48,48,48,48,48] [] rfl rfl (by decide) rfl h
 have e:zId (n:Int) 11 [119,97,108,45,48,48,48,48,48,48,48,48]=some ([119,97,108,45]++yZj 8 n++ []):=this
 rw [show (!([119,97,108,45,48,48,48,48,48,48,48,48]:List Nat).isEmpty)=true from rfl,cond_true,e,Option.bind_some,List.append_nil]
 have: [119,97,108,45]++yZj 8 n=(nm n).map fun b=>((b.toNat:Nat):Int):=by
  unfold nm yZj
  rw [List.map_append]
  rfl
 rw [this,xK6]
theorem xMs:∀(m n j:Nat),j<m→(dig m n)[m-1-j]? =some (dgt (n/10^j))
 |0,n,j,h=>by omega
 |m+1,n,j,h=>by
  rw [dig]
  cases j with
  |zero=>
   rw [List.getElem?_append_right (by rw [zUv];omega),zUv]
   simp
  |succ j=>
   rw [List.getElem?_append_left (by rw [zUv];omega),show m+1-1-(j+1)=m-1-j by omega,xMs m (n/10) j (by omega),Nat.pow_succ,Nat.mul_comm,Nat.div_div_eq_div_mul]
theorem xI5 {n:Nat} (h:n<100000000):∀k,k≤8→zD8 (nm n) ((n/10^k:Nat):Int) ((12-k:Nat):Int)=some (.inl (n:Int))
 |0,_=>by
  rw [yBf];unfold zF4;rw [decide_eq_false (by omega:¬((12-0:Nat):Int)<12),cond_false]
  simp
 |k+1,hk=>by
  have hg:(nm n)[11-k]? =some (dgt (n/10^k)):=by
   unfold nm
   rw [List.getElem?_append_right (by simp;omega)]
   have:=xMs 8 n k (by omega)
   rw [←this]
   congr 1
   simp;omega
  have ha:at? (nm n) ((12-(k+1):Nat):Int)=some (dgt (n/10^k)):=by
   have hl:=yTk n
   rw [wY (by omega:12-(k+1)<(nm n).length)]
   rw [show 11-k=12-(k+1) by omega,List.getElem?_eq_getElem (by omega)] at hg
   exact hg
  have hd:n/10^(k+1)=n/10^k/10:=by rw [Nat.pow_succ,Nat.div_div_eq_div_mul]
  have hlt:n/10^k<100000000:=Nat.lt_of_le_of_lt (Nat.div_le_self _ _) h
  have hdg:=yH4 (n/10^k)
  have ih:=xI5 h k (by omega)
  rw [yBf];unfold zF4;rw [decide_eq_true (by omega:((12-(k+1):Nat):Int)<12),cond_true,ha,hd]
  generalize n/10^k=q at hlt hdg ih ⊢
  have e1:IntKind.wrap .i64 (IntKind.wrap .i64 (((q/10:Nat):Int)*10)+IntKind.wrap .i64 (IntKind.wrap .u8 (((dgt q).toNat:Int)-48)))=(q:Int):=by
   rw [hdg,wrap_u8,yQ (n:=((q/10:Nat):Int)*10) (by omega) (by omega),yQ (n:=(((48+q % 10:Nat):Int)-48) % 256) (by omega) (by omega),yQ (by omega) (by omega)]
   omega
  have e2:IntKind.wrap .i64 (((12-(k+1):Nat):Int)+1)=((12-k:Nat):Int):=by rw [yQ (by omega) (by omega)];omega
  simp only [Option.bind_some]
  rw [decide_eq_false (by omega:¬((dgt q).toNat:Int)<48),decide_eq_false (by omega:¬((dgt q).toNat:Int)>57),cond_false,cond_false,e1,e2]
  exact ih
theorem yG0 {n:Nat} (h:n<100000000):zEf (nm n)=some (n:Int):=by
 have hl:=yTk n
 have:=xI5 h 8 (by decide)
 rw [show n/10^8=0 by omega] at this
 have this:zD8 (nm n) 0 4=some (.inl (n:Int)):=this
 unfold zEf zT8
 rw [hl,show (((12:Nat):Int) !=12)=false from rfl,cond_false]
 have e:cut (nm n) 0 4= [119,97,108,45]:=by
  have:=zYd (nm n) 4
  rw [show ((4:Nat):Int)=4 from rfl] at this
  rw [this]
  rfl
 rw [e,this]
 rfl
end Go.Proofs.YtlhifcknhgmidaaGreatDoor.gg
