/- A part of our own proof. -/
import Derived.Test.YtlhifcknhgmidaaGreatDoorK6
import Derived.Test.YtlhifcknhgmidaaGreatDoorW
open Go Go.GG
set_option linter.unusedVariables false
namespace Go.Proofs.YtlhifcknhgmidaaGreatDoor.gg
def bs (x:Nat):Nat:=if x % 2=1 then (x/2)^^^3988292384 else x/2
theorem xHb {x:Nat} (h:x<4294967296):bs x<4294967296:=by
 unfold bs
 split
 ·exact Nat.xor_lt_two_pow (n:=32) (by omega) (by decide)
 ·omega
theorem xSe (a c:Nat):(a^^^2*c) % 2=a % 2:=by
 have h:=Nat.xor_mod_two_pow (a:=a) (b:=2*c) (n:=1)
 have e:2*c % 2^1=0:=by omega
 rw [e,Nat.xor_zero] at h
 omega
theorem xRf (a c:Nat):(a^^^2*c)/2=a/2^^^c:=by
 rw [Nat.xor_div_two]
 congr 1
 omega
theorem xA7 (a c:Nat):bs (a^^^2*c)=bs a^^^c:=by
 unfold bs
 rw [xSe,xRf]
 split
 ·rw [Nat.xor_assoc,Nat.xor_comm c,←Nat.xor_assoc]
 ·rfl
def nib (x:Nat):Nat:=bs (bs (bs (bs x)))
theorem yUp {x:Nat} (h:x<4294967296):nib x<4294967296:=xHb (xHb (xHb (xHb h)))
theorem xS7 (a c:Nat):nib (a^^^16*c)=nib a^^^c:=by
 unfold nib
 rw [show 16*c=2*(2*(2*(2*c))) by omega,xA7,xA7,xA7,xA7]
theorem xS3 (x:Nat):x=x % 16^^^16*(x/16):=by
 have h1:(x % 16^^^16*(x/16)) % 2^4=x % 16:=by
  rw [Nat.xor_mod_two_pow]
  have:16*(x/16) % 2^4=0:=by omega
  rw [this,Nat.xor_zero];omega
 have h2:(x % 16^^^16*(x/16))/2^4=x/16:=by
  rw [Nat.xor_div_two_pow]
  have e1:x % 16/2^4=0:=by omega
  have e2:16*(x/16)/2^4=x/16:=by omega
  rw [e1,e2,Nat.zero_xor]
 omega
theorem xE3 (x:Nat):nib x=nib (x % 16)^^^x/16:=by
 conv=>lhs;rw [xS3 x,xS7]
theorem yQu {a b:Nat} (ha:a<4294967296) (hb:b<4294967296):xH .xor .u32 (a:Int) (b:Int)=((a^^^b:Nat):Int):=by
 have h1:(BitVec.ofInt IntKind.u32.bits (a:Int)).toNat=a:=by
  rw [show IntKind.u32.bits=32 from rfl,BitVec.ofInt_natCast,BitVec.toNat_ofNat];omega
 have h2:(BitVec.ofInt IntKind.u32.bits (b:Int)).toNat=b:=by
  rw [show IntKind.u32.bits=32 from rfl,BitVec.ofInt_natCast,BitVec.toNat_ofNat];omega
 show IntKind.wrap .u32 (((BitVec.ofInt IntKind.u32.bits (a:Int)^^^BitVec.ofInt IntKind.u32.bits (b:Int)).toNat:Nat):Int)=_
 rw [BitVec.toNat_xor,h1,h2,wrap_u32]
 have:=Nat.xor_lt_two_pow (n:=32) (by omega:a<2^32) (by omega:b<2^32)
 omega
theorem xSy {a:Nat} (ha:a<4294967296):xH .and .u32 (a:Int) 15=((a % 16:Nat):Int):=by
 have h1:(BitVec.ofInt IntKind.u32.bits (a:Int)).toNat=a:=by
  rw [show IntKind.u32.bits=32 from rfl,BitVec.ofInt_natCast,BitVec.toNat_ofNat];omega
 have h2:(BitVec.ofInt IntKind.u32.bits (15:Int)).toNat=2^4-1:=by decide
 show IntKind.wrap .u32 (((BitVec.ofInt IntKind.u32.bits (a:Int)&&&BitVec.ofInt IntKind.u32.bits (15:Int)).toNat:Nat):Int)=_
 rw [BitVec.toNat_and,h1,h2,Nat.and_two_pow_sub_one_eq_mod,wrap_u32]
 omega
theorem xUr (a:Nat):zB2 .u32 (a:Int) 4=((a/16:Nat):Int):=by
 rw [show (4:Int)=((4:Nat):Int) from rfl,xL8 4 (by decide)]
 omega
def zRb (x:Nat) (b:Int):Nat:=nib (nib (x^^^b.toNat))
theorem yQs {b:Int} (h:yD b):b.toNat<256∧((b.toNat:Nat):Int)=b:=by
 obtain ⟨h0,h1⟩:=h
 omega
theorem xOr {x:Nat} {b:Int} (h:x<4294967296) (hb:yD b):zRb x b<4294967296:=by
 have h1:=(yQs hb).1
 exact yUp (yUp (Nat.xor_lt_two_pow (n:=32) (by omega) (by omega)))
theorem yUz:∀(l:List Int) (x:Nat),(∀b∈l,yD b)→x<4294967296→l.foldl zRb x<4294967296
 | [],_,_,h=>h
 |b::l,x,hb,h=>yUz l _ (fun y hy=>hb y (List.mem_cons_of_mem _ hy)) (xOr h (hb b (List.mem_cons_self ..)))
def xN5 (l:List Int):Nat:=l.foldl zRb 4294967295^^^4294967295
theorem xRl:∀r,r<16→zCl[r]? =some ((nib r:Nat):Int):=by decide+kernel
theorem xI1 (x:Nat):at? zCl ((x % 16:Nat):Int)=some ((nib (x % 16):Nat):Int):=by
 have:=xRl (x % 16) (by omega)
 unfold at?
 rw [decide_eq_true (by omega),cond_true,Int.toNat_natCast]
 exact this
theorem xTh {l:List Int} (hl:l.length≤1000000000000) (hb:∀b∈l,yD b) {x:Nat} (hx:x<4294967296):
 zOf (x:Int) l (l.length:Int) 0=some ((l.foldl zRb x:Nat):Int):=by
 have key:=yKt l zRb x (fun i s=>zOf (s:Int) l (l.length:Int) (i:Int)) (out:=fun s=>some ((s:Nat):Int)) (fun i hi=>by
  try dsimp only
  have hs:=yUz (l.take i) x (fun b h=>hb b (List.mem_of_mem_take h)) hx
  generalize (l.take i).foldl zRb x=s at hs ⊢
  obtain ⟨hb1,hb2⟩:=yQs (hb l[i] (List.getElem_mem hi))
  have hy:s^^^l[i].toNat<4294967296:=Nat.xor_lt_two_pow (n:=32) (by omega) (by omega)
  rw [yM9];unfold zQ2;rw [decide_eq_true (by omega:(i:Int)<(l.length:Int)),wY hi,yW (by omega)]
  simp only [cond_true,Option.bind_some]
  have e0:xH .xor .u32 (s:Int) (IntKind.wrap .u32 l[i])=((s^^^l[i].toNat:Nat):Int):=by
   rw [show IntKind.wrap .u32 l[i]=((l[i].toNat:Nat):Int) by rw [wrap_u32,hb2];omega]
   exact yQu hs (by omega)
  rw [e0]
  unfold zRb
  generalize s^^^l[i].toNat=y at hy ⊢
  rw [xSy hy,decide_eq_true (by omega:(0:Int)≤((y % 16:Nat):Int)),decide_eq_true (by omega:((y % 16:Nat):Int)<((16:Nat):Int)),xI1 y,xUr]
  simp only [cond_true,Bool.and_self,Option.bind_some]
  rw [yQu (yUp (by omega)) (by omega),←xE3 y]
  have hz:=yUp hy
  generalize nib y=z at hz ⊢
  rw [xSy hz,decide_eq_true (by omega:(0:Int)≤((z % 16:Nat):Int)),decide_eq_true (by omega:((z % 16:Nat):Int)<((16:Nat):Int)),xI1 z,xUr]
  simp only [cond_true,Bool.and_self,Option.bind_some]
  rw [yQu (yUp (by omega)) (by omega),←xE3 z]) (by
  try dsimp only
  rw [yM9];unfold zQ2;rw [decide_eq_false (by omega:¬(l.length:Int)<(l.length:Int))];rfl)
 simpa using key
theorem xVi {l:List Int} (hl:l.length≤1000000000000) (hb:∀b∈l,yD b):yOt l=some ((xN5 l:Nat):Int):=by
 unfold yOt yO9 yLy yG6
 have e:xH .xor .u32 4294967295 0=((4294967295:Nat):Int):=by decide
 rw [e,xTh hl hb (by decide)]
 simp only [Option.bind_some]
 unfold xN5
 have h1:=yUz l 4294967295 hb (by decide)
 generalize l.foldl zRb 4294967295=s at h1 ⊢
 have:=yQu (a:=4294967295) (b:=s) (by decide) h1
 rw [show (4294967295:Int)=((4294967295:Nat):Int) from rfl,this,Nat.xor_comm]
def bsN:Nat→Nat→Nat
 |0,x=>x
 |m+1,x=>bsN m (bs x)
theorem xPf {l:List Int} {i:Nat} (hi:i<l.length) (hb:yD l[i]):∀(m k S:Nat),k+m=8→S<4294967296→
 zQq l (S:Int) (i:Int) (k:Int)=some (l,((bsN m (S^^^l[i].toNat/2^k):Nat):Int),(i:Int))
 |0,k,S,hk,hS=>by
  obtain ⟨hb1,hb2⟩:=yQs hb
  obtain rfl:k=8:=by omega
  rw [yLi];unfold zOl;rw [decide_eq_false (by omega:¬((8:Nat):Int)<8)]
  have:l[i].toNat/2^8=0:=by omega
  rw [this,Nat.xor_zero]
  rfl
 |m+1,k,S,hk,hS=>by
  obtain ⟨hb1,hb2⟩:=yQs hb
  rw [yLi];unfold zOl;rw [decide_eq_true (by omega:(k:Int)<8),wY hi,yW (by omega)]
  simp only [cond_true,Option.bind_some]
  have e1:IntKind.wrap .u64 (k:Int)=(k:Int):=zBo (by omega) (by omega)
  have e2:zB2 .u32 (IntKind.wrap .u32 l[i]) (k:Int)=((l[i].toNat/2^k:Nat):Int):=by
   rw [show IntKind.wrap .u32 l[i]=((l[i].toNat:Nat):Int) by rw [wrap_u32,hb2];omega,xL8 k (by omega)]
   rw [Int.natCast_ediv,Int.natCast_pow];rfl
  have hd:l[i].toNat/2^k<256:=Nat.lt_of_le_of_lt (Nat.div_le_self _ _) hb1
  have hnext:l[i].toNat/2^(k+1)=l[i].toNat/2^k/2:=by rw [Nat.pow_succ,Nat.div_div_eq_div_mul]
  rw [e1,e2,decide_eq_true (by omega:(0:Int)≤(k:Int)),yQu hS (by omega)]
  simp only [cond_true]
  have e3:IntKind.wrap .u32 (Int.tdiv (S:Int) 2)=((S/2:Nat):Int):=by
   rw [Int.tdiv_eq_ediv_of_nonneg (by omega),wrap_u32];omega
  rw [e3]
  have ih:=fun S' hS'=>xPf hi hb m (k+1) S' (by omega) hS'
  rw [hnext] at ih
  generalize l[i].toNat/2^k=d at hd ih ⊢
  have e4:(Int.tmod ((S^^^d:Nat):Int) 2==1)=decide ((S^^^d) % 2=1):=by
   rw [Int.tmod_eq_emod_of_nonneg (by omega),Bool.eq_iff_iff,beq_iff_eq,decide_eq_true_eq];omega
  rw [e4]
  by_cases hq:(S^^^d) % 2=1
  ·rw [decide_eq_true hq,cond_true,show (3988292384:Int)=((3988292384:Nat):Int) from rfl,yQu (by omega) (by decide),ih _ (Nat.xor_lt_two_pow (n:=32) (by omega) (by decide))]
   congr 4
   show bsN m _=bsN m (bs (S^^^d))
   congr 1
   unfold bs
   rw [if_pos hq,Nat.xor_div_two,Nat.xor_assoc,Nat.xor_comm 3988292384,←Nat.xor_assoc]
  ·rw [decide_eq_false hq,cond_false,ih _ (by omega)]
   congr 4
   show bsN m _=bsN m (bs (S^^^d))
   congr 1
   unfold bs
   rw [if_neg hq,Nat.xor_div_two]
theorem xRw {l:List Int} (hl:l.length≤1000000000000) (hb:∀b∈l,yD b):yDo l=some ((xN5 l:Nat):Int):=by
 have key:=yKt l zRb 4294967295 (fun i s=>zS8 l (s:Int) (i:Int)) (out:=fun s=>some ((s:Nat):Int)) (fun i hi=>by
  try dsimp only
  have hs:=yUz (l.take i) 4294967295 (fun b h=>hb b (List.mem_of_mem_take h)) (by decide)
  generalize (l.take i).foldl zRb 4294967295=s at hs ⊢
  have h1:=xPf hi (hb l[i] (List.getElem_mem hi)) 8 0 s rfl hs
  simp only [show ((0:Nat):Int)=0 from rfl] at h1
  rw [yMs];unfold zQ1;rw [decide_eq_true (by omega:(i:Int)<(l.length:Int)),h1]
  simp only [cond_true,Option.bind_some]
  rw [yW (by omega)]
  simp only [Nat.pow_zero,Nat.div_one]
  rfl) (by
  try dsimp only
  rw [yMs];unfold zQ1;rw [decide_eq_false (by omega:¬(l.length:Int)<(l.length:Int))];rfl)
 unfold yDo yHq
 rw [show (4294967295:Int)=((4294967295:Nat):Int) from rfl]
 simp only [show ((0:Nat):Int)=0 from rfl] at key
 rw [key]
 simp only [Option.bind_some]
 rw [yQu (yUz l _ hb (by decide)) (by decide)]
 rfl
def xHa (c:Int):List Int:= [IntKind.wrap .u8 (zB2 .u32 c 24),IntKind.wrap .u8 (zB2 .u32 c 16),IntKind.wrap .u8 (zB2 .u32 c 8),IntKind.wrap .u8 c]
def zFi (l:List Int):List Int:=xHa ((xN5 l:Nat):Int)++l
theorem zO4 (l:List Int):(zFi l).length=l.length+4:=by simp [zFi,xHa]
theorem xTb (n:Int):yD (IntKind.wrap .u8 n):=by rw [wrap_u8];constructor<;>omega
theorem yQt {l:List Int} (h:∀b∈l,yD b):∀b∈zFi l,yD b:=by
 intro b hb
 rcases List.mem_append.1 hb with hb|hb
 ·simp only [xHa,List.mem_cons,List.not_mem_nil,or_false] at hb
  rcases hb with rfl|rfl|rfl|rfl<;>exact xTb _
 ·exact h b hb
theorem xNu (l:List Int):(zFi l).drop 4=l:=by simp [zFi,xHa]
theorem xMd {l:List Int} (hl:l.length≤100000000000) (hb:∀b∈l,yD b):zXl l=some (zFi l):=by
 unfold zXl yHd
 rw [xVi (by omega) hb]
 simp only [Option.bind_some]
 rw [yT (by simp;omega)]
 rfl
theorem xBu {l:List Int} (hl:l.length≤100000000000) (hb:∀b∈l,yD b):zRi l=some (zFi l):=by
 unfold zRi zZ3
 rw [xRw (by omega) hb]
 simp only [Option.bind_some]
 rw [yT (by simp;omega)]
 rfl
def zLe (k:Int) (b:List Int):List Int:=yL (b.length+5)++zFi (k::b)
theorem xNl {k:Int} {b:List Int} (h:b.length≤100000000):(zLe k b).length≤b.length+15:=by
 unfold zLe
 have:=zH2 (n:=b.length+5) (by omega)
 rw [List.length_append,zO4,List.length_cons]
 omega
theorem xLc {k:Int} {b:List Int} (hk:yD k) (hb:∀x∈b,yD x):∀x∈zLe k b,yD x:=by
 intro x hx
 rcases List.mem_append.1 hx with hx|hx
 ·exact zTs _ x hx
 ·refine yQt (fun y hy=> ?_) x hx
  rcases List.mem_cons.1 hy with rfl|hy
  ·exact hk
  ·exact hb y hy
theorem xUn {k:Int} {b:List Int} (hk:yD k) (hb:∀x∈b,yD x) (hl:b.length≤100000000):zTz k b=some (if (b.length:Int)>1048571 then ([],3) else (zLe k b,0)):=by
 unfold zTz yCw
 by_cases h:(b.length:Int)>1048571
 ·rw [if_pos h,decide_eq_true h];rfl
 ·rw [if_neg h,decide_eq_false h]
  have hb':∀x∈k::b,yD x:=fun x hx=>by
   rcases List.mem_cons.1 hx with rfl|hx
   ·exact hk
   ·exact hb x hx
  simp only [cond_false,List.cons_append,List.nil_append]
  rw [yT (by simp;omega),xMd (by simp;omega) hb']
  simp only [cond_true,Option.bind_some]
  have e:IntKind.wrap .u64 ((zFi (k::b)).length:Int)=((b.length+5:Nat):Int):=by
   rw [zO4,List.length_cons,zBo (by omega) (by omega)]
  rw [e,xAv [] _ (by omega) (by simp)]
  simp only [Option.bind_some,List.nil_append]
  have:=zH2 (n:=b.length+5) (by omega)
  rw [yT (by rw [List.length_append,zO4,List.length_cons];omega)]
  rfl
theorem xLf {k:Int} {b:List Int} (hk:yD k) (hb:∀x∈b,yD x) (hl:b.length≤100000000):zJr k b=some (zLe k b):=by
 unfold zJr zWu
 have hb':∀x∈k::b,yD x:=fun x hx=>by
  rcases List.mem_cons.1 hx with rfl|hx
  ·exact hk
  ·exact hb x hx
 simp only [List.cons_append,List.nil_append]
 rw [yT (by simp;omega),xBu (by simp;omega) hb']
 simp only [cond_true,Option.bind_some]
 have e:IntKind.wrap .u64 ((zFi (k::b)).length:Int)=((b.length+5:Nat):Int):=by
  rw [zO4,List.length_cons,zBo (by omega) (by omega)]
 rw [e,zG6 _ (by omega)]
 simp only [Option.bind_some]
 have:=zH2 (n:=b.length+5) (by omega)
 rw [yT (by rw [List.length_append,zO4,List.length_cons];omega)]
 rfl
end Go.Proofs.YtlhifcknhgmidaaGreatDoor.gg
