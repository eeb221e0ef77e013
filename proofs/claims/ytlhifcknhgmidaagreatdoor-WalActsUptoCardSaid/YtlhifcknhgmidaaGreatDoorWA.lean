/- A part of our own proof. -/
import Derived.Test.YtlhifcknhgmidaaGreatDoorB
open Go Go.GG
set_option linter.unusedVariables false
namespace Go.Proofs.YtlhifcknhgmidaaGreatDoor.gg
def dgt (n:Nat):UInt8:=UInt8.ofNat (48+n % 10)
def dig:Nat→Nat→Str
 |0,_=> []
 |k+1,n=>dig k (n/10)++ [dgt n]
def nm (n:Nat):Str:= [119,97,108,45]++dig 8 n
theorem zUv:∀k n,(dig k n).length=k
 |0,n=>rfl
 |k+1,n=>by rw [dig,List.length_append,zUv k];rfl
theorem yTk (n:Nat):(nm n).length=12:=by simp [nm,zUv]
theorem yH4 (n:Nat):(dgt n).toNat=48+n % 10:=by
 unfold dgt
 rw [UInt8.toNat_ofNat']
 omega
theorem yVn:∀ {k n:Nat} {b:UInt8},b∈dig k n→48≤b.toNat∧b.toNat≤57
 |0,n,b,h=>by simp [dig] at h
 |k+1,n,b,h=>by
  rw [dig,List.mem_append] at h
  rcases h with h|h
  ·exact yVn h
  ·rw [List.mem_singleton.1 h,yH4];omega
theorem xHl:∀k,dig k 0=List.replicate k 48
 |0=>rfl
 |k+1=>by rw [dig,show (0:Nat)/10=0 from rfl,xHl k,List.replicate_succ'];rfl
theorem xPb {n:Nat} (h:n<10):Lib.decDigits n= [dgt n]:=by
 rw [Lib.decDigits,dif_pos h]
 unfold dgt
 rw [Nat.mod_eq_of_lt h]
theorem xTq {n:Nat} (h:¬n<10):Lib.decDigits n=Lib.decDigits (n/10)++ [dgt n]:=by
 rw [Lib.decDigits,dif_neg h]
 rfl
theorem xPl:∀(k n:Nat),n<10^(k+1)→(Lib.decDigits n).length≤k+1∧List.replicate (k+1-(Lib.decDigits n).length) 48++Lib.decDigits n=dig (k+1) n
 |k,n,h=>by
  by_cases h10:n<10
  ·rw [xPb h10]
   refine ⟨by simp, ?_⟩
   rw [dig,show n/10=0 by omega,xHl]
   rfl
  ·cases k with
   |zero=>omega
   |succ k=>
    have ih:=xPl k (n/10) (by rw [Nat.pow_succ] at h;omega)
    rw [xTq h10,List.length_append]
    refine ⟨by simp;exact ih.1, ?_⟩
    rw [dig,←ih.2,List.append_assoc]
    congr 2
    simp
theorem xT7 {n:Nat} (h:n<100000000):(Lib.itoa (n:Int)).length≤8∧List.replicate (8-(Lib.itoa (n:Int)).length) 48++Lib.itoa (n:Int)=dig 8 n:=by
 have e:Lib.itoa (n:Int)=Lib.decDigits n:=by
  unfold Lib.itoa
  rw [if_neg (by omega)];simp
 rw [e]
 exact xPl 7 n h
theorem xIb:∀ {x y:Str} (s t:Str),x.length=y.length→xD x y=true→xD (x++s) (y++t)=true
 | [], [],s,t,_,h=>by rw [yDe] at h;cases h
 |a::x,b::y,s,t,hl,h=>by
  rw [List.cons_append,List.cons_append,zC8]
  rw [zC8] at h
  simp only [List.length_cons,Nat.add_right_cancel_iff] at hl
  simp only [Bool.or_eq_true,Bool.and_eq_true] at h ⊢
  rcases h with h|⟨h1,h2⟩
  ·exact .inl h
  ·exact .inr ⟨h1,xIb s t hl h2⟩
theorem yYi:∀(x:Str) {s t:Str},xD s t=true→xD (x++s) (x++t)=true
 | [],s,t,h=>h
 |a::x,s,t,h=>by
  rw [List.cons_append,List.cons_append,zC8,yYi x h]
  simp
theorem xQ4 {n m:Nat} (h:n % 10<m % 10):xD [dgt n] [dgt m]=true:=by
 rw [zC8]
 have:decide (dgt n<dgt m)=true:=by
  rw [decide_eq_true_eq,UInt8.lt_iff_toNat_lt,yH4,yH4];omega
 rw [this];rfl
theorem xHm:∀ {k n m:Nat},n<m→m<10^k→xD (dig k n) (dig k m)=true
 |0,n,m,h,h2=>by simp at h2;omega
 |k+1,n,m,h,h2=>by
  rw [dig,dig]
  by_cases hq:n/10<m/10
  ·exact xIb _ _ (by rw [zUv,zUv]) (xHm hq (by rw [Nat.pow_succ] at h2;omega))
  ·rw [show n/10=m/10 by omega]
   exact yYi _ (xQ4 (by omega))
theorem xTu {n m:Nat} (h:n<m) (h2:m<100000000):xD (nm n) (nm m)=true:=yYi _ (xHm h h2)
theorem yUy (b:UInt8):∀(l:Str) (a:Nat),Lib.decFrom a (l++ [b])=(Lib.decFrom a l).bind fun x=>(Lib.digitVal b).map fun d=>x*10+d
 | [],a=>by
   simp only [List.nil_append,Lib.decFrom,Option.bind_some]
   cases Lib.digitVal b<;>rfl
 |c::l,a=>by
  simp only [List.cons_append,Lib.decFrom]
  cases Lib.digitVal c with
  |none=>rfl
  |some d=>exact yUy b l _
theorem yW4:∀ {k n:Nat},n<10^k→Lib.decFrom 0 (dig k n)=some n
 |0,n,h=>by simp at h;subst h;rfl
 |k+1,n,h=>by
  rw [dig,yUy,yW4 (by rw [Nat.pow_succ] at h;omega)]
  have:Lib.digitVal (dgt n)=some (n % 10):=by
   unfold Lib.digitVal
   rw [yH4,if_pos (by omega)]
   congr 1;omega
  rw [this]
  simp only [Option.bind_some,Option.map_some]
  congr 1;omega
theorem xSh {k n:Nat} (h:n<10^(k+1)):Lib.atoi (dig (k+1) n)=some (n:Int):=by
 have hl:=zUv (k+1) n
 have hd:=yW4 h
 have hm:∀b∈dig (k+1) n,48≤b.toNat∧b.toNat≤57:=fun b hb=>yVn hb
 generalize dig (k+1) n=l at*
 cases l with
 |nil=>simp at hl
 |cons b r=>
  have h1:=hm b (List.mem_cons_self ..)
  unfold Lib.atoi Lib.decNat
  have n1:(b==45)=false:=by
   rw [beq_eq_false_iff_ne];intro e;rw [e] at h1;exact absurd h1.1 (by decide)
  have n2:(b==43)=false:=by
   rw [beq_eq_false_iff_ne];intro e;rw [e] at h1;exact absurd h1.1 (by decide)
  simp only [n1,n2,Bool.false_eq_true,if_false,List.isEmpty_cons]
  rw [hd];rfl
def yQq:Str:= [48,49,50,51,52,53,54,55,56,57]
theorem xQa {b:UInt8} (h:48≤b.toNat∧b.toNat≤57):yQq.contains b=true:=by
 have:b=UInt8.ofNat b.toNat:=by simp
 rw [this]
 obtain ⟨h1,h2⟩:=h
 generalize b.toNat=n at*
 have:n=48∨n=49∨n=50∨n=51∨n=52∨n=53∨n=54∨n=55∨n=56∨n=57:=by omega
 rcases this with h|h|h|h|h|h|h|h|h|h<;>subst h<;>rfl
theorem xN7 {b:UInt8} (h:48≤b.toNat∧b.toNat≤57):zQw.contains b=true:=by
 have:b=UInt8.ofNat b.toNat:=by simp
 rw [this]
 obtain ⟨h1,h2⟩:=h
 generalize b.toNat=n at*
 have:n=48∨n=49∨n=50∨n=51∨n=52∨n=53∨n=54∨n=55∨n=56∨n=57:=by omega
 rcases this with h|h|h|h|h|h|h|h|h|h<;>subst h<;>rfl
theorem xQ2 (k n:Nat):Lib.trimS (dig k n) yQq= []:=by
 have hm:∀b∈(dig k n).reverse,yQq.contains b=true:=fun b hb=>xQa (yVn (List.mem_reverse.1 hb))
 show (((dig k n).reverse.dropWhile (yQq.contains ·)).reverse).dropWhile (yQq.contains ·)= []
 have:(dig k n).reverse.dropWhile (yQq.contains ·)= []:=by
  rw [zQx,List.all_eq_true];exact hm
 rw [this];rfl
theorem xHe (n:Nat):zOs (nm n)=true:=by
 unfold zOs
 rw [yTk,Bool.and_eq_true,Bool.and_eq_true]
 refine ⟨by decide,by decide, ?_⟩
 unfold nm
 rw [List.all_append,Bool.and_eq_true]
 refine ⟨by decide, ?_⟩
 rw [List.all_eq_true]
 exact fun b hb=>xN7 (yVn hb)
end Go.Proofs.YtlhifcknhgmidaaGreatDoor.gg
