/- A part of our own proof. -/
import Derived.Test.YtlhifcknhgmidaaGreatDoorK5
import Derived.IntWalk
namespace Go.GG
theorem wrap_u8 (n:Int):IntKind.u8.wrap n=n % 256:=IntKind.wrap_u8 n
theorem wrap_u32 (n:Int):IntKind.u32.wrap n=n % 4294967296:=IntKind.wrap_u32 n
theorem yJj (n:Int):IntKind.u64.wrap n=n % 18446744073709551616:=by
 simp [IntKind.wrap,IntKind.bits,IntKind.signed]
theorem yQ {n:Int} (h0: -9223372036854775808≤n) (h1:n≤9223372036854775807):IntKind.i64.wrap n=n:=yY6 h0 h1
theorem zBo {n:Int} (h0:0≤n) (h1:n<18446744073709551616):IntKind.u64.wrap n=n:=by rw [yJj];omega
theorem xTt {n:Int} (s:Nat) (hs:s≤64):zB2 .u64 n s=n/2^s:=by
 unfold zB2
 have h:min (s:Int).toNat IntKind.u64.bits=s:=by simp [IntKind.bits];omega
 rw [h,Int.fdiv_eq_ediv_of_nonneg _ (Int.le_of_lt (Int.pow_pos (by decide)))]
theorem xL8 {n:Int} (s:Nat) (hs:s≤32):zB2 .u32 n s=n/2^s:=by
 unfold zB2
 have h:min (s:Int).toNat IntKind.u32.bits=s:=by simp [IntKind.bits];omega
 rw [h,Int.fdiv_eq_ediv_of_nonneg _ (Int.le_of_lt (Int.pow_pos (by decide)))]
theorem xVe {n:Int} (h0:0≤n) (h1:n<256):xH .or .u8 n 128=n % 128+128:=by
 have key:∀a:Fin 256,xH .or .u8 (a.val:Int) 128=(a.val:Int) % 128+128:=by decide+kernel
 have:=key ⟨n.toNat,by omega⟩
 simp only at this
 rw [Int.toNat_of_nonneg h0] at this
 exact this
theorem xU6 (op:BinOp) (a b:Int):xH op .u64 a b=(match op with
 | .and=>((BitVec.ofInt 64 a&&&BitVec.ofInt 64 b).toNat:Int) % 18446744073709551616
 | .or=>((BitVec.ofInt 64 a|||BitVec.ofInt 64 b).toNat:Int) % 18446744073709551616
 | .xor=>((BitVec.ofInt 64 a^^^BitVec.ofInt 64 b).toNat:Int) % 18446744073709551616
 |_=>((BitVec.ofInt 64 a&&& ~~~BitVec.ofInt 64 b).toNat:Int) % 18446744073709551616):=by
 cases op<;>exact yJj _
theorem yT {n b:Nat} (h:n*b≤140737488355328):yK n b=true:=by simp [yK,h]
theorem wY {α:Type} {xs:List α} {i:Nat} (h:i<xs.length):at? xs (i:Int)=some xs[i]:=by
 simp [at?,h]
theorem xS8 {α:Type} (xs:List α):cut xs 0 (xs.length:Int)=xs:=by simp [cut]
theorem xI0 {t:T}:∀(xs:List t.den),xs.length≤(xs.map t.bulk).sum
 | []=>by simp
 |x::xs=>by
  have h:1≤t.bulk x:=by
   have key:∀(t:T) (x:t.den),1≤t.bulk x:=by
    intro t
    induction t with
    |int k=>intro x;simp [T.bulk]
    |bool=>intro x;simp [T.bulk]
    |str=>intro x;simp [T.bulk]
    |slice t _=>intro x;simp [T.bulk]
    |opt t _=>intro x;simp [T.bulk]
    |pb=>intro x;simp [T.bulk]
    |raw=>intro x;simp [T.bulk]
    |ib=>intro x;simp [T.bulk]
    |box g s _=>intro x;simp [T.bulk]
    |pair a b iha _=>intro x;simp only [T.bulk];have:=iha x.1;omega
   exact key t x
  have:=xI0 xs
  simp only [List.length_cons,List.map_cons,List.sum_cons];omega
theorem xM7 {t:T} (xs:List t.den):xs.length+1≤(T.slice t).bulk xs:=by
 have:=xI0 xs
 simp only [T.bulk];omega
end Go.GG
set_option linter.unusedVariables false
namespace Go.GG
def Lm {α:Type} (f:Nat→Option α) (v:Option α):Prop:=
 (∀k y,f k=some y→f (k+1)=some y)∧∀y,v=some y↔∃k,f k=some y
open Classical in
noncomputable def lim {α:Type} (f:Nat→Option α):Option α:=if h:∃k,(f k).isSome then f h.choose else none
namespace Lm
variable {α β γ:Type}
theorem up {f:Nat→Option α} {v:Option α} (h:Lm f v) {k j:Nat} (hk:k≤j) {y:α} (e:f k=some y):f j=some y:=by
 induction hk with
 |refl=>exact e
 |step _ ih=>exact h.1 _ _ ih
theorem of_mono {f:Nat→Option α} (h:∀k y,f k=some y→f (k+1)=some y):Lm f (lim f):=by
 refine ⟨h,fun y=> ?_⟩
 have up:∀k j,k≤j→∀y,f k=some y→f j=some y:=by
  intro k j hk
  induction hk with
  |refl=>exact fun _ e=>e
  |step _ ih=>exact fun y e=>h _ _ (ih y e)
 unfold lim
 constructor
 ·intro e
  split at e
  ·exact ⟨_,e⟩
  ·cases e
 ·rintro ⟨k,e⟩
  have hs:∃k,(f k).isSome:=⟨k,by rw [e];rfl⟩
  rw [dif_pos hs]
  have h1:=hs.choose_spec
  obtain ⟨z,hz⟩:=Option.isSome_iff_exists.1 h1
  rw [hz]
  have a:=up _ _ (Nat.le_max_left k hs.choose) y e
  have b:=up _ _ (Nat.le_max_right k hs.choose) z hz
  rw [a] at b
  exact b.symm
theorem uniq {f:Nat→Option α} {v w:Option α} (h:Lm f v) (h':Lm f w):v=w:=by
 cases hv:v with
 |some y=>exact ((h'.2 y).2 ((h.2 y).1 hv)).symm
 |none=>
  cases hw:w with
  |none=>rfl
  |some y=>rw [(h.2 y).2 ((h'.2 y).1 hw)] at hv;cases hv
theorem of_some {f:Nat→Option α} {v:Option α} (h:Lm f v) (k:Nat) {y:α} (e:f k=some y):v=some y:=(h.2 y).2 ⟨k,e⟩
theorem const (v:Option α):Lm (fun _=>v) v:=⟨fun _ _ h=>h,fun _=>⟨fun h=>⟨0,h⟩,fun ⟨_,h⟩=>h⟩⟩
theorem bind {f:Nat→Option α} {v:Option α} {g:Nat→α→Option β} {w:α→Option β} (h:Lm f v) (h':∀x,Lm (fun k=>g k x) (w x)):
 Lm (fun k=>(f k).bind fun x=>g k x) (v.bind fun x=>w x):=by
 refine ⟨fun k y e=> ?_,fun y=>⟨fun e=> ?_,fun ⟨k,e⟩=> ?_⟩⟩
 ·obtain ⟨x,hx,hy⟩:=Option.bind_eq_some_iff.1 e
  exact Option.bind_eq_some_iff.2 ⟨x,h.1 _ _ hx,(h' x).1 _ _ hy⟩
 ·obtain ⟨x,hx,hy⟩:=Option.bind_eq_some_iff.1 e
  obtain ⟨k,hk⟩:=(h.2 x).1 hx
  obtain ⟨j,hj⟩:=((h' x).2 y).1 hy
  exact ⟨max k j,Option.bind_eq_some_iff.2 ⟨x,h.up (Nat.le_max_left k j) hk,(h' x).up (Nat.le_max_right k j) hj⟩⟩
 ·obtain ⟨x,hx,hy⟩:=Option.bind_eq_some_iff.1 e
  exact Option.bind_eq_some_iff.2 ⟨x,(h.2 x).2 ⟨k,hx⟩,((h' x).2 y).2 ⟨k,hy⟩⟩
theorem oelim (o:Option γ) {f:Nat→Option α} {v:Option α} {g:Nat→γ→Option α} {w:γ→Option α} (h:Lm f v) (h':∀x,Lm (fun k=>g k x) (w x)):Lm (fun k=>o.elim (f k) fun x=>g k x) (o.elim v fun x=>w x):=by
 cases o with
 |none=>exact h
 |some x=>exact h' x
theorem cond (b:Bool) {f g:Nat→Option α} {v w:Option α} (h:Lm f v) (h':Lm g w):Lm (fun k=>bif b then f k else g k) (bif b then v else w):=by
 cases b
 ·exact h'
 ·exact h
theorem elim (s:α⊕β) {f:Nat→α→Option γ} {g:Nat→β→Option γ} {v:α→Option γ} {w:β→Option γ} (h:∀a,Lm (fun k=>f k a) (v a)) (h':∀b,Lm (fun k=>g k b) (w b)):
 Lm (fun k=>Sum.elim (fun a=>f k a) (fun b=>g k b) s) (Sum.elim (fun a=>v a) (fun b=>w b) s):=by
 cases s
 ·exact h _
 ·exact h' _
theorem shift {f:Nat→Option α} {v:Option α} (h:Lm f v):Lm (fun k=>f (k+1)) v:=
 ⟨fun k y e=>h.1 _ _ e,fun y=>⟨fun e=>let ⟨k,hk⟩:=(h.2 y).1 e;⟨k,h.1 _ _ hk⟩,fun ⟨k,e⟩=>(h.2 y).2 ⟨k+1,e⟩⟩⟩
theorem loop {V:Type} {p:Nat→V→Option α} (B:Nat→(V→Option α)→V→Option α) (B':(V→Option α)→V→Option α)
 (h0:∀v,p 0 v=none) (hs:∀k v,p (k+1) v=B k (p k) v)
 (hB:∀(q:Nat→V→Option α) (q':V→Option α),(∀v,Lm (fun k=>q k v) (q' v))→∀v,Lm (fun k=>B k (q k) v) (B' q' v)):
 (∀v,Lm (fun k=>p k v) (lim fun k=>p k v))∧∀v,(lim fun k=>p k v)=B' (fun v=>lim fun k=>p k v) v:=by
 have mono:∀n k,k<n→∀v y,p k v=some y→p (k+1) v=some y:=by
  intro n
  induction n with
  |zero=>intro k h;exact absurd h (Nat.not_lt_zero _)
  |succ n ih=>
   intro k hk v y e
   cases k with
   |zero=>rw [h0] at e;cases e
   |succ k=>
    have up:∀i j,i≤j→j≤n→∀v y,p i v=some y→p j v=some y:=by
     intro i j hij
     induction hij with
     |refl=>exact fun _ _ _ e=>e
     |step _ ihj=>exact fun hj v y e=>ih _ (by omega) v y (ihj (by omega) v y e)
    have hq:∀v,Lm (fun j=>p (min j n) v) (p n v):=by
     intro v
     refine ⟨fun j y e=>up _ _ (by omega) (by omega) v y e,fun y=>⟨fun e=>⟨n,by show p (min n n) v=some y;rw [Nat.min_self];exact e⟩,fun ⟨j,e⟩=>up _ _ (by omega) (by omega) v y e⟩⟩
    have:=(hB (fun j=>p (min j n)) (p n) hq v).1 k y
    simp only at this
    rw [show min k n=k by omega,show min (k+1) n=k+1 by omega,←hs,←hs] at this
    exact this e
 have h1:∀v,Lm (fun k=>p k v) (lim fun k=>p k v):=fun v=>of_mono fun k y e=>mono (k+1) k (Nat.lt_succ_self k) v y e
 refine ⟨h1,fun v=> ?_⟩
 have h2:=hB p (fun v=>lim fun k=>p k v) h1 v
 have h3:(fun k=>B k (p k) v)=fun k=>p (k+1) v:=by funext k;rw [hs]
 rw [h3] at h2
 exact (h1 v).shift.uniq h2
theorem diag {A B R:Type} {F:Nat→(A→Option B)→Option R} {F':(A→Option B)→Option R} {g:Nat→A→Option B} {g':A→Option B}
 (h1:∀k,Lm (fun j=>F k (g j)) (F k g')) (h2:∀h,Lm (fun k=>F k h) (F' h)):Lm (fun k=>F k (g k)) (F' g'):=by
 refine ⟨fun k y e=> ?_,fun y=>⟨fun e=> ?_,fun ⟨k,e⟩=> ?_⟩⟩
 ·exact (h2 (g (k+1))).1 _ _ ((h1 k).1 _ _ e)
 ·obtain ⟨k,hk⟩:=((h2 g').2 y).1 e
  obtain ⟨j,hj⟩:=((h1 k).2 y).1 hk
  exact ⟨max k j,(h2 _).up (Nat.le_max_left k j) ((h1 k).up (Nat.le_max_right k j) hj)⟩
 ·exact ((h2 g').2 y).2 ⟨k,((h1 k).2 y).2 ⟨k,e⟩⟩
theorem back {X α:Type} {f:Nat→Nat→α→X→Option X} {f':Nat→α→X→Option X} (h:∀i e x,Lm (fun k=>f k i e x) (f' i e x)) (xs:List α):∀(n:Nat) (x:X),Lm (fun k=>zSj (f k) xs n x) (zSj f' xs n x)
 |0,x=>Lm.const _
 |n+1,x=>by
  simp only [zSj]
  exact Lm.bind (Lm.const _) fun e=>Lm.bind (h n e x) fun y=>back h xs n y
theorem fin {F:Nat→Option Bool} {v:Option Bool} (h:Lm F v) (e:v=some true):∃k,F k=some true:=(h.2 true).1 e
end Lm
end Go.GG
set_option linter.unusedVariables false
namespace Go.GG
def yL (n:Nat):List Int:=if h:n<128 then [(n:Int)] else ((n % 128+128:Nat):Int)::yL (n/128)
termination_by n
decreasing_by omega
def vJ:Nat→Nat→List Int→Option (Nat×Nat)
 |_,_, []=>none
 |k,a,c::s=>if (k=9∧c>1)∨(c=0∧k>0) then none else if c<128 then some (a+c.toNat % 128*128^k,k+1) else vJ (k+1) (a+c.toNat % 128*128^k) s
def yD (c:Int):Prop:=0≤c∧c<256
theorem zX3 {n:Nat} (h:n<128):yL n= [(n:Int)]:=by rw [yL,dif_pos h]
theorem yBz {n:Nat} (h:¬n<128):yL n=((n % 128+128:Nat):Int)::yL (n/128):=by rw [yL,dif_neg h]
theorem zTs (n:Nat):∀c∈yL n,yD c:=by
 induction n using Nat.strongRecOn with
 |_ n ih=>
  by_cases h:n<128
  ·rw [zX3 h];intro c hc;simp at hc;subst hc;constructor<;>omega
  ·rw [yBz h];intro c hc
   rcases List.mem_cons.1 hc with rfl|hc
   ·constructor<;>omega
   ·exact ih _ (by omega) c hc
theorem xSj (n:Nat):0<(yL n).length:=by
 by_cases h:n<128
 ·rw [zX3 h];simp
 ·rw [yBz h];simp
theorem xHv:∀(j n:Nat),n<128^(j+1)→(yL n).length≤j+1
 |0,n,h=>by rw [zX3 (by simpa using h)];simp
 |j+1,n,h=>by
  by_cases hn:n<128
  ·rw [zX3 hn];simp
  ·rw [yBz hn]
   have:n/128<128^(j+1):=by rw [Nat.div_lt_iff_lt_mul (by decide)];rw [Nat.pow_succ] at h;exact h
   have:=xHv j _ this
   simp;omega
theorem zH2 {n:Nat} (h:n<18446744073709551616):(yL n).length≤10:=xHv 9 n (Nat.lt_trans h (by decide))
theorem xRm (s:List Int):∀(n k a:Nat),n*128^k<18446744073709551616→k≤9→(0<k→0<n)→vJ k a (yL n++s)=some (a+n*128^k,k+(yL n).length):=by
 intro n
 induction n using Nat.strongRecOn with
 |_ n ih=>
  intro k a hn hk h0
  have h9:k=9→n≤1:=by
   rintro rfl
   have:n*128^9<2*128^9:=by
    have e:(2*128^9:Nat)=18446744073709551616:=by decide
    rw [e];exact hn
   have:=Nat.lt_of_mul_lt_mul_right this
   omega
  by_cases h:n<128
  ·rw [zX3 h]
   simp only [List.cons_append,List.nil_append,vJ,List.length_singleton]
   have c1:¬((k=9∧(n:Int)>1)∨((n:Int)=0∧k>0)):=by
    rintro (⟨h1,h2⟩|⟨h1,h2⟩)
    ·have:=h9 h1;omega
    ·have:=h0 h2;omega
   rw [if_neg c1,if_pos (by omega:(n:Int)<128)]
   simp [Nat.mod_eq_of_lt h]
  ·rw [yBz h]
   simp only [List.cons_append,vJ,List.length_cons]
   have c1:¬((k=9∧((n % 128+128:Nat):Int)>1)∨(((n % 128+128:Nat):Int)=0∧k>0)):=by
    rintro (⟨h1,h2⟩|⟨h1,h2⟩)
    ·have:=h9 h1;omega
    ·omega
   have hk9:k≠9:=fun e=>by have:=h9 e;omega
   rw [if_neg c1,if_neg (by omega:¬(((n % 128+128:Nat):Int)<128))]
   have e1:((n % 128+128:Nat):Int).toNat % 128=n % 128:=by omega
   rw [e1]
   have e2:n*128^k=n % 128*128^k+n/128*128^(k+1):=by
    rw [Nat.pow_succ,Nat.mul_comm (128^k) 128,←Nat.mul_assoc,←Nat.add_mul]
    congr 1
    have:=Nat.div_add_mod n 128;omega
   rw [ih (n/128) (by omega) (k+1) _ (by omega) (by omega) (fun _=>by omega),e2]
   congr 1
   ext<;>simp<;>omega
theorem yOy:∀(s:List Int) (k a v c:Nat),k≤9→(∀x∈s,yD x)→vJ k a s=some (v,c)→
 ∃m,v=a+m*128^k∧m*128^k<18446744073709551616∧(0<k→0<m)∧c=k+(yL m).length∧s=yL m++s.drop (yL m).length
 | [],_,_,_,_,_,_,h=>by simp [vJ] at h
 |x::s,k,a,v,c,hk,hb,h=>by
  have hx:=hb x (by simp)
  obtain ⟨hx0,hx1⟩:=hx
  simp only [vJ] at h
  split at h
  ·simp at h
  ·rename_i hc
   have p128:128^k≤(128^9:Nat):=Nat.pow_le_pow_right (by decide) hk
   have pe:(128^9:Nat)=9223372036854775808:=by decide
   split at h
   ·rename_i hlt
    simp only [Option.some.injEq,Prod.mk.injEq] at h
    obtain ⟨rfl,rfl⟩:=h
    have hm:x.toNat % 128=x.toNat:=Nat.mod_eq_of_lt (by omega)
    have hput:yL x.toNat= [x]:=by rw [zX3 (by omega)];simp;omega
    refine ⟨x.toNat,by rw [hm], ?_,fun h0=> ?_,by rw [hput];simp,by rw [hput];simp⟩
    ·by_cases h9:k=9
     ·subst h9
      have:x.toNat≤1:=by
       have:¬x>1:=fun h=>hc (.inl ⟨rfl,h⟩)
       omega
      calc x.toNat*128^9≤1*128^9:=Nat.mul_le_mul_right _ this
       _<_:=by decide
     ·have p:128^k≤(128^8:Nat):=Nat.pow_le_pow_right (by decide) (by omega)
      calc x.toNat*128^k≤128*128^8:=Nat.mul_le_mul (by omega) p
       _<_:=by decide
    ·have:¬x=0:=fun h=>hc (.inr ⟨h,h0⟩)
     omega
   ·rename_i hge
    have hk9:k≠9:=fun e=>hc (.inl ⟨e,by omega⟩)
    obtain ⟨m,h1,h2,h3,h4,h5⟩:=yOy s (k+1) _ v c (by omega) (fun y hy=>hb y (by simp [hy])) h
    have hm0:=h3 (by omega)
    have e128:x.toNat % 128=x.toNat-128:=by omega
    have hput:yL (x.toNat % 128+m*128)=x::yL m:=by
     rw [yBz (by omega)]
     congr 1
     ·omega
     ·congr 1;omega
    have e2:(x.toNat % 128+m*128)*128^k=x.toNat % 128*128^k+m*128^(k+1):=by
     rw [Nat.add_mul,Nat.pow_succ,Nat.mul_assoc,Nat.mul_comm 128 (128^k)]
    refine ⟨x.toNat % 128+m*128,by rw [h1,e2];omega, ?_,
     fun _=>by omega,
     by rw [hput,h4,List.length_cons];omega,
     by rw [hput];simpa using h5⟩
    rw [e2]
    have q:x.toNat % 128<128:=Nat.mod_lt _ (by decide)
    have d:(18446744073709551616:Nat)=2*128^(8-k)*128^(k+1):=by
     rw [Nat.mul_assoc,←Nat.pow_add,show 8-k+(k+1)=9 by omega]
    rw [d] at h2 ⊢
    have:=Nat.lt_of_mul_lt_mul_right h2
    have h6:m*128^(k+1)+128^(k+1)≤2*128^(8-k)*128^(k+1):=by
     rw [←Nat.succ_mul];exact Nat.mul_le_mul_right _ this
    have h7:x.toNat % 128*128^k<128^(k+1):=by
     rw [Nat.pow_succ,Nat.mul_comm (128^k)];exact Nat.mul_lt_mul_of_pos_right q (Nat.pow_pos (by decide))
    omega
theorem zD5 {s:List Int} {v c:Nat} (hb:∀x∈s,yD x) (h:vJ 0 0 s=some (v,c)):v<18446744073709551616∧0<c∧c≤10∧c≤s.length∧c=(yL v).length∧s=yL v++s.drop c:=by
 obtain ⟨m,h1,h2,_,h4,h5⟩:=yOy s 0 0 v c (by omega) hb h
 simp at h1 h2 h4
 subst h1
 have:=zH2 h2
 have:=xSj v
 have h6:=congrArg List.length h5
 simp at h6
 rw [←h4] at h5
 exact ⟨h2,by omega,by omega,by omega,h4,h5⟩
theorem zEa {n:Nat} (h:n<18446744073709551616) (s:List Int):vJ 0 0 (yL n++s)=some (n,(yL n).length):=by
 have:=xRm s n 0 0 (by simpa using h) (by omega) (by omega)
 simpa using this
theorem xPu {a c k:Nat} (ha:a<128^k) (hk:k≤9) (hc:c<128) (h9:k=9→c≤1):xH .or .u64 (a:Int) (zEh .u64 (c:Int) (7*k:Nat))=((a+c*128^k:Nat):Int):=by
 have e7:(128^k:Nat)=2^(7*k):=by rw [Nat.pow_mul]
 have hpp:0<(128^k:Nat):=Nat.pow_pos (by decide)
 have hlt:c*128^k≤18446744073709551616-128^k:=by
  by_cases h:k=9
  ·subst h
   have:=h9 rfl
   calc c*128^9≤1*128^9:=Nat.mul_le_mul_right _ this
    _≤_:=by decide
  ·have p:128^k≤(128^8:Nat):=Nat.pow_le_pow_right (by decide) (by omega)
   have:c*128^k≤127*128^8:=Nat.mul_le_mul (by omega) p
   have e8:(128^8:Nat)=72057594037927936:=by decide
   omega
 have p9:128^k≤(128^9:Nat):=Nat.pow_le_pow_right (by decide) hk
 have e9:(128^9:Nat)=9223372036854775808:=by decide
 have s1:zEh .u64 (c:Int) (7*k:Nat)=((c*128^k:Nat):Int):=by
  unfold zEh
  have h0:min ((7*k:Nat):Int).toNat IntKind.u64.bits=7*k:=by
   have:IntKind.u64.bits=64:=rfl
   rw [this];simp;omega
  rw [h0,yJj]
  have:((c:Int)*2^(7*k))=((c*128^k:Nat):Int):=by rw [e7];simp
  rw [this]
  omega
 rw [s1,xU6]
 simp only
 have b1:(BitVec.ofInt 64 (a:Int)).toNat=a:=by
  rw [BitVec.toNat_ofInt];omega
 have b2:(BitVec.ofInt 64 ((c*128^k:Nat):Int)).toNat=c*128^k:=by
  rw [BitVec.toNat_ofInt];omega
 rw [BitVec.toNat_or,b1,b2]
 have:a|||c*128^k=a+c*128^k:=by
  rw [e7] at ha ⊢
  rw [Nat.or_comm,Nat.mul_comm,←Nat.two_pow_add_eq_or_of_lt ha];omega
 rw [this]
 omega
end Go.GG
set_option linter.unusedVariables false
namespace Go.GG
theorem xQ3 {α β:Type} (p:α×β):(p.1,p.2)=p:=rfl
abbrev Rd:=List Int×Int×Int
structure zAm (s:Rd):Prop where
 b:∀x∈s.1,yD x
 lo:0≤s.2.1
 hi:s.2.1≤s.1.length
 big:s.1.length≤1000000000000
def rest (s:Rd):List Int:=s.1.drop s.2.1.toNat
theorem zAm.rest_byte {s:Rd} (h:zAm s):∀x∈rest s,yD x:=fun x hx=>h.b x (List.mem_of_mem_drop hx)
theorem zAm.rest_len {s:Rd} (h:zAm s):((rest s).length:Int)=s.1.length-s.2.1:=by
 have:=h.lo;have:=h.hi
 simp [rest];omega
def zSd (s:Rd) (e:Int):Rd:=(s.1,s.2.1,e)
def rto (s:Rd) (n:Nat):Rd:=(s.1,s.2.1+n,s.2.2)
def rU (s:Rd):Int×Rd:=if s.2.2=0 then (match vJ 0 0 (rest s) with|none=>(0,zSd s 5)|some (v,c)=>((v:Int),rto s c)) else (0,s)
def zGa (s:Rd) (most:Int):List Int×Rd:=if s.2.2=0 then (match vJ 0 0 (rest s) with
 |none=>([],zSd s 5)
 |some (v,c)=>if (v:Int)>most then ([],zSd s 3) else if v>(rest s).length-c then ([],zSd s 5) else (((rest s).drop c).take v,rto s (c+v))) else ([],s)
theorem yOu {s:Rd} (h:zAm s) {n:Nat} (hn:n≤(rest s).length):zAm (rto s n):=by
 have:=h.rest_len
 exact ⟨h.b,by have:=h.lo;simp [rto];omega,by simp [rto];omega,h.big⟩
theorem yKo {s:Rd} (h:zAm s) (e:Int):zAm (zSd s e):=⟨h.b,h.lo,h.hi,h.big⟩
theorem yI7 {s:Rd} (h:zAm s) (n:Nat):rest (rto s n)=(rest s).drop n:=by
 have:=h.lo
 simp only [rest,rto,List.drop_drop]
 congr 1;omega
theorem xUw {s:Rd} (h:zAm s):zAm (rU s).2:=by
 unfold rU
 split
 ·split
  ·exact yKo h 5
  ·rename_i v c hg
   exact yOu h (zD5 h.rest_byte hg).2.2.2.1
 ·exact h
theorem xOd {s:Rd} (h:zAm s) (most:Int):zAm (zGa s most).2:=by
 unfold zGa
 split
 ·split
  ·exact yKo h 5
  ·rename_i v c hg
   have:=(zD5 h.rest_byte hg).2.2.2.1
   split
   ·exact yKo h 3
   ·split
    ·exact yKo h 5
    ·exact yOu h (by omega)
 ·exact h
theorem xJq {s:Rd} (h:zAm s):0≤(rU s).1∧(rU s).1<18446744073709551616:=by
 unfold rU
 split
 ·split
  ·simp
  ·rename_i v c hg
   have:=(zD5 h.rest_byte hg).1
   simp;omega
 ·simp
theorem xLd {s:Rd} (h:zAm s) (most:Int):(∀x∈(zGa s most).1,yD x)∧((zGa s most).1.length:Int)≤max most 0:=by
 unfold zGa
 split
 ·split
  ·simp;omega
  ·split
   ·simp;omega
   ·split
    ·simp;omega
    ·refine ⟨fun x hx=>h.rest_byte x (List.mem_of_mem_drop (List.mem_of_mem_take hx)), ?_⟩
     simp;omega
 ·simp;omega
theorem xVf {s:Rd} (h:zAm s) (e:(rU s).2.2.2=0):s.2.2=0∧∃n:Nat,n<18446744073709551616∧(rU s).1=n∧rest s=yL n++rest (rU s).2∧(rU s).2.1=s.1:=by
 unfold rU at*
 by_cases h0:s.2.2=0
 ·rw [if_pos h0] at*
  cases hg:vJ 0 0 (rest s) with
  |none=>simp [hg,zSd] at e
  |some p=>
   obtain ⟨v,c⟩:=p
   obtain ⟨h1,_,_,_,_,h5⟩:=zD5 h.rest_byte hg
   simp only
   exact ⟨h0,v,h1,rfl,by rw [yI7 h];exact h5,rfl⟩
 ·rw [if_neg h0] at e;exact absurd e h0
theorem xQe {s:Rd} (h:zAm s) {most:Int} (e:(zGa s most).2.2.2=0):s.2.2=0∧((zGa s most).1.length:Int)≤most∧(zGa s most).1.length<18446744073709551616∧
 rest s=yL (zGa s most).1.length++(zGa s most).1++rest (zGa s most).2∧(zGa s most).2.1=s.1:=by
 unfold zGa at*
 by_cases h0:s.2.2=0
 ·rw [if_pos h0] at*
  cases hg:vJ 0 0 (rest s) with
  |none=>simp [hg,zSd] at e
  |some p=>
   obtain ⟨v,c⟩:=p
   obtain ⟨h1,_,_,h3,_,h5⟩:=zD5 h.rest_byte hg
   simp only [hg] at e
   by_cases hm:(v:Int)>most
   ·simp [hm,zSd] at e
   ·simp only [if_neg hm] at e ⊢
    by_cases hv:v>(rest s).length-c
    ·simp [hv,zSd] at e
    ·simp only [if_neg hv]
     have hl:(((rest s).drop c).take v).length=v:=by simp;omega
     refine ⟨h0,by rw [hl];omega,by rw [hl];exact h1, ?_,rfl⟩
     rw [hl,yI7 h,←List.drop_drop]
     rw [List.append_assoc,List.take_append_drop]
     exact h5
 ·rw [if_neg h0] at e;exact absurd e h0
theorem xTe {s:Rd} (h:zAm s) (h0:s.2.2=0) {n:Nat} (hn:n<18446744073709551616) {r:List Int} (hr:rest s=yL n++r):∃s',rU s=((n:Int),s')∧zAm s'∧s'.2.2=0∧rest s'=r∧s'.1=s.1:=by
 have e:rU s=((n:Int),rto s (yL n).length):=by unfold rU;rw [if_pos h0,hr,zEa hn]
 refine ⟨_,e,yOu h (by rw [hr];simp),h0, ?_,rfl⟩
 rw [yI7 h,hr];simp
theorem xK9 {s:Rd} (h:zAm s) (h0:s.2.2=0) {x:List Int} (hn:x.length<18446744073709551616) {most:Int} (hm:(x.length:Int)≤most) {r:List Int} (hr:rest s=yL x.length++x++r):
 ∃s',zGa s most=(x,s')∧zAm s'∧s'.2.2=0∧rest s'=r∧s'.1=s.1:=by
 rw [List.append_assoc] at hr
 have e:zGa s most=(x,rto s ((yL x.length).length+x.length)):=by
  unfold zGa
  rw [if_pos h0,hr,zEa hn]
  simp only
  rw [if_neg (by omega),if_neg (by simp)]
  simp
 refine ⟨_,e,yOu h (by rw [hr];simp),h0, ?_,rfl⟩
 rw [yI7 h,hr,←List.drop_drop];simp
theorem xPx {c:Int} (h:yD c):xH .and .u8 c 127=c % 128:=by
 obtain ⟨h0,h1⟩:=h
 have key:∀a:Fin 256,xH .and .u8 (a.val:Int) 127=(a.val:Int) % 128:=by decide+kernel
 have:=key ⟨c.toNat,by omega⟩
 simp only at this
 rw [Int.toNat_of_nonneg h0] at this
 exact this
theorem xUz {a k:Nat} {c:Int} (ha:a<128^k) (hk:k≤9) (hc:yD c) (h9:k=9→c % 128≤1):
 xH .or .u64 (a:Int) (zEh .u64 (IntKind.wrap .u64 (xH .and .u8 c 127)) (IntKind.wrap .i64 (7*(k:Int))))=((a+c.toNat % 128*128^k:Nat):Int):=by
 obtain ⟨h0,h1⟩:=hc
 rw [xPx ⟨h0,h1⟩,zBo (by omega) (by omega),yQ (by omega) (by omega)]
 have e1:c % 128=((c.toNat % 128:Nat):Int):=by omega
 have e2:7*(k:Int)=((7*k:Nat):Int):=by omega
 rw [e1,e2]
 exact xPu ha hk (Nat.mod_lt _ (by decide)) (fun e=>by have:=h9 e;omega)
theorem xU2 {a k:Nat} {c:Int} (ha:a<128^k) (hk:k≤9) (hc:yD c) (h9:k=9→c % 128≤1):
 xH .or .u64 (a:Int) (zEh .u64 (IntKind.wrap .u64 (Int.tmod c 128)) (IntKind.wrap .u64 (IntKind.wrap .i64 (7*(k:Int)))))=((a+c.toNat % 128*128^k:Nat):Int):=by
 obtain ⟨h0,h1⟩:=hc
 rw [Int.tmod_eq_emod_of_nonneg h0,zBo (by omega) (by omega),yQ (by omega) (by omega),zBo (by omega) (by omega)]
 have e1:c % 128=((c.toNat % 128:Nat):Int):=by omega
 have e2:7*(k:Int)=((7*k:Nat):Int):=by omega
 rw [e1,e2]
 exact xPu ha hk (Nat.mod_lt _ (by decide)) (fun e=>by have:=h9 e;omega)
theorem xH0 {a k:Nat} {c:Int} (ha:a<128^k):a+c.toNat % 128*128^k<128^(k+1):=by
 rw [Nat.pow_succ]
 have:c.toNat % 128≤127:=by omega
 have:=Nat.mul_le_mul_right (128^k) this
 omega
end Go.GG
set_option linter.unusedVariables false
namespace Go.GG
theorem yW {i:Nat} (h:i≤1000000000000000000):IntKind.wrap .i64 ((i:Int)+1)=((i+1:Nat):Int):=by rw [yQ (by omega) (by omega)];omega
theorem zTm {S R:Type} (n:Nat) (P:Nat→S→R) (Inv:Nat→S→Prop) (Post:R→Prop)
 (hstep:∀i s,i<n→Inv i s→(∃s',P i s=P (i+1) s'∧Inv (i+1) s')∨Post (P i s)) (hend:∀s,Inv n s→Post (P n s)):
 ∀i s,i≤n→Inv i s→Post (P i s):=by
 have key:∀m i s,i+m=n→Inv i s→Post (P i s):=by
  intro m
  induction m with
  |zero=>intro i s h hi;have:i=n:=by omega
         subst this;exact hend s hi
  |succ m ih=>
   intro i s h hi
   rcases hstep i s (by omega) hi with ⟨s',e,hi'⟩|hp
   ·rw [e];exact ih (i+1) s' (by omega) hi'
   ·exact hp
 intro i s h hi
 exact key (n-i) i s (by omega) hi
section
variable {α β:Type}
theorem yYe (l:List α) (i:Nat):l[Int.toNat (i:Int)]? =l[i]? :=by simp
theorem yMu {l:List α} {i:Nat} (h:i<l.length):at? l (i:Int)=some l[i]:=wY h
theorem zQg {l:List α} {i:Nat} (h:i<l.length):l.take (i+1)=l.take i++ [l[i]]:=by
 rw [List.take_add_one,List.getElem?_eq_getElem h];rfl
end
def nth {α:Type} (l:List α) (i:Nat) (d:α):α:=l.getD i d
theorem yYs {α:Type} {l:List α} {i:Nat} (h:i<l.length) (d:α):at? l (i:Int)=some (nth l i d):=by
 unfold nth;rw [wY h,List.getD_eq_getElem?_getD,List.getElem?_eq_getElem h];rfl
theorem yH5 {α:Type} {l:List α} {i:Nat} (h:i<l.length) (d:α):nth l i d=l[i]:=by
 unfold nth;rw [List.getD_eq_getElem?_getD,List.getElem?_eq_getElem h];rfl
end Go.GG
set_option linter.unusedVariables false
namespace Go.GG
abbrev Str:=List UInt8
theorem yDe (x:Str):xD x []=false:=by cases x<;>rfl
theorem zC8 (a b:UInt8) (x y:Str):xD (a::x) (b::y)=(decide (a<b)||(a==b&&xD x y)):=rfl
theorem xLe (b:UInt8) (y:Str):xD [] (b::y)=true:=rfl
theorem zIg:∀x:Str,xD x x=false
 | []=>rfl
 |a::x=>by
  rw [zC8,zIg x]
  have:¬a<a:=UInt8.lt_irrefl a
  simp
theorem zQn:∀ {x y z:Str},xD x y=true→xD y z=true→xD x z=true
 |_,_, [],_,h=>by rw [yDe] at h;cases h
 |_, [],_::_,h,_=>by rw [yDe] at h;cases h
 | [],_::_,c::z,_,_=>rfl
 |a::x,b::y,c::z,h1,h2=>by
  rw [zC8] at h1 h2 ⊢
  simp only [Bool.or_eq_true,decide_eq_true_eq,Bool.and_eq_true,beq_iff_eq] at h1 h2 ⊢
  rcases h1 with h1|⟨rfl,h1⟩
  ·rcases h2 with h2|⟨rfl,h2⟩
   ·exact .inl (UInt8.lt_trans h1 h2)
   ·exact .inl h1
  ·rcases h2 with h2|⟨rfl,h2⟩
   ·exact .inl h2
   ·exact .inr ⟨rfl,zQn h1 h2⟩
theorem zQh:∀x y:Str,xD x y=true∨x=y∨xD y x=true
 | [], []=> .inr (.inl rfl)
 | [],_::_=> .inl rfl
 |_::_, []=> .inr (.inr rfl)
 |a::x,b::y=>by
  rw [zC8,zC8]
  simp only [Bool.or_eq_true,decide_eq_true_eq,Bool.and_eq_true,beq_iff_eq,List.cons.injEq]
  rcases UInt8.lt_or_lt_of_ne (a:=a) (b:=b)|>fun f=>(Classical.em (a=b)).imp id f with h|h
  ·subst h
   rcases zQh x y with h|h|h
   ·exact .inl (.inr ⟨rfl,h⟩)
   ·exact .inr (.inl ⟨rfl,h⟩)
   ·exact .inr (.inr (.inr ⟨rfl,h⟩))
  ·rcases h with h|h
   ·exact .inl (.inl h)
   ·exact .inr (.inr (.inl h))
theorem zWq {x y:Str} (h:xD x y=true):xD y x=false:=by
 cases h':xD y x with
 |false=>rfl
 |true=>have:=zQn h h';rw [zIg] at this;cases this
theorem zUa {x y:Str} (h:xD x y=true):x≠y:=fun e=>by subst e;rw [zIg] at h;cases h
def leS (a b:Str):Bool:=xD a b||a==b
theorem xQ9 (x y:Str):(!xD x y)=leS y x:=by
 unfold leS
 rcases zQh x y with h|h|h
 ·rw [h,zWq h]
  have:(y==x)=false:=by simpa using (zUa h).symm
  rw [this];rfl
 ·subst h;rw [zIg];simp
 ·rw [h,zWq h];rfl
theorem xL7 {x y:Str}:leS x y=true↔xD x y=true∨x=y:=by simp [leS]
theorem xSw (x:Str):leS x x=true:=by simp [leS]
theorem yMj {x y:Str} (h:xD x y=true):leS x y=true:=by simp [leS,h]
theorem xO3 {x y z:Str} (h1:leS x y=true) (h2:leS y z=true):leS x z=true:=by
 rw [xL7] at*
 rcases h1 with h1|rfl
 ·rcases h2 with h2|rfl
  ·exact .inl (zQn h1 h2)
  ·exact .inl h1
 ·exact h2
theorem xKs {x y:Str} (h1:leS x y=true) (h2:leS y x=true):x=y:=by
 rw [xL7] at h1 h2
 rcases h1 with h1|h1
 ·rcases h2 with h2|h2
  ·have:=zQn h1 h2;rw [zIg] at this;cases this
  ·exact h2.symm
 ·exact h1
end Go.GG
set_option linter.unusedVariables false
namespace Go.GG
structure Cd (α:Type) where
 enc:α→List Int
 rd:Rd→α×Rd
 ok:α→Prop
 byte:∀x,ok x→∀y∈enc x,yD y
 inv:∀s,zAm s→zAm (rd s).2∧ok (rd s).1
 was:∀s,zAm s→(rd s).2.2.2=0→s.2.2=0∧rest s=enc (rd s).1++rest (rd s).2
 read:∀s x r,zAm s→s.2.2=0→ok x→rest s=enc x++r→∃s',rd s=(x,s')∧zAm s'∧s'.2.2=0∧rest s'=r
namespace Cd
variable {α β:Type}
def u:Cd Int where
 enc:=fun n=>yL n.toNat
 rd:=rU
 ok:=fun n=>0≤n∧n<18446744073709551616
 byte:=fun x _=>zTs _
 inv:=fun s h=>⟨xUw h,xJq h⟩
 was:=fun s h e=>by
  obtain ⟨a,n,_,b,c,_⟩:=xVf h e
  exact ⟨a,by rw [b,Int.toNat_natCast];exact c⟩
 read:=fun s x r h h0 hx hr=>by
  obtain ⟨s',a,b,c,d,_⟩:=xTe h h0 (n:=x.toNat) (by omega) hr
  exact ⟨s',by rw [a,Int.toNat_of_nonneg hx.1],b,c,d⟩
def bytes (most:Nat) (hm:most<18446744073709551616):Cd (List Int) where
 enc:=fun x=>yL x.length++x
 rd:=fun s=>zGa s most
 ok:=fun x=>(∀y∈x,yD y)∧x.length≤most
 byte:=fun x hx y hy=>by
  rcases List.mem_append.1 hy with hy|hy
  ·exact zTs _ y hy
  ·exact hx.1 y hy
 inv:=fun s h=>⟨xOd h most,by have:=xLd h most;exact ⟨this.1,by omega⟩⟩
 was:=fun s h e=>by
  obtain ⟨a,_,_,c,_⟩:=xQe h e
  exact ⟨a,c⟩
 read:=fun s x r h h0 hx hr=>by
  obtain ⟨s',a,b,c,d,_⟩:=xK9 h h0 (x:=x) (by omega) (most:=most) (by omega) hr
  exact ⟨s',a,b,c,d⟩
def iso (c:Cd α) (f:α→β) (g:β→α) (okb:β→Prop) (h1:∀x,c.ok x→okb (f x)∧g (f x)=x) (h2:∀y,okb y→c.ok (g y)∧f (g y)=y):Cd β where
 enc:=fun y=>c.enc (g y)
 rd:=fun s=>(f (c.rd s).1,(c.rd s).2)
 ok:=okb
 byte:=fun y hy=>c.byte _ (h2 y hy).1
 inv:=fun s h=>⟨(c.inv s h).1,(h1 _ (c.inv s h).2).1⟩
 was:=fun s h e=>by rw [(h1 _ (c.inv s h).2).2];exact c.was s h e
 read:=fun s y r h h0 hy hr=>by
  obtain ⟨s',a,b⟩:=c.read s (g y) r h h0 (h2 y hy).1 hr
  exact ⟨s',by rw [a,(h2 y hy).2],b⟩
def pair (c:Cd α) (d:Cd β):Cd (α×β) where
 enc:=fun x=>c.enc x.1++d.enc x.2
 rd:=fun s=>(((c.rd s).1,(d.rd (c.rd s).2).1),(d.rd (c.rd s).2).2)
 ok:=fun x=>c.ok x.1∧d.ok x.2
 byte:=fun x hx y hy=>by
  rcases List.mem_append.1 hy with hy|hy
  ·exact c.byte _ hx.1 y hy
  ·exact d.byte _ hx.2 y hy
 inv:=fun s h=>by
  have h1:=c.inv s h
  have h2:=d.inv _ h1.1
  exact ⟨h2.1,h1.2,h2.2⟩
 was:=fun s h e=>by
  have h1:=c.inv s h
  obtain ⟨a,b⟩:=d.was _ h1.1 e
  obtain ⟨a',b'⟩:=c.was s h a
  exact ⟨a',by rw [b',b,List.append_assoc]⟩
 read:=fun s x r h h0 hx hr=>by
  simp only [List.append_assoc] at hr
  obtain ⟨s1,a1,b1,c1,d1⟩:=c.read s x.1 _ h h0 hx.1 hr
  obtain ⟨s2,a2,b2,c2,d2⟩:=d.read s1 x.2 r b1 c1 hx.2 d1
  exact ⟨s2,by rw [a1,a2],b2,c2,d2⟩
theorem whole (c:Cd α) {b:List Int} (hb:∀x∈b,yD x) (hl:b.length≤1000000000000):((c.rd (b,0,0)).2.2.2=0∧rest (c.rd (b,0,0)).2= [])↔c.enc (c.rd (b,0,0)).1=b:=by
 have i0:zAm ((b,0,0):Rd):=⟨hb,by simp,by simp,hl⟩
 have hr:rest ((b,0,0):Rd)=b:=by simp [rest]
 constructor
 ·rintro ⟨h1,h2⟩
  obtain ⟨_,q⟩:=c.was _ i0 h1
  rw [hr,h2,List.append_nil] at q
  exact q.symm
 ·intro e
  obtain ⟨s',a,_,b',c'⟩:=c.read (b,0,0) (c.rd (b,0,0)).1 [] i0 rfl (c.inv _ i0).2 (by rw [hr,List.append_nil,e])
  have:(c.rd (b,0,0)).2=s':=by rw [a]
  rw [this];exact ⟨b',c'⟩
theorem back (c:Cd α) {x:α} (hx:c.ok x) (hl:(c.enc x).length≤1000000000000):(c.rd (c.enc x,0,0)).1=x:=by
 have i0:zAm ((c.enc x,0,0):Rd):=⟨c.byte x hx,by simp,by simp,hl⟩
 obtain ⟨s',a,_⟩:=c.read (c.enc x,0,0) x [] i0 rfl hx (by simp [rest])
 rw [a]
theorem inj (c:Cd α) {x y:α} (hx:c.ok x) (hy:c.ok y) (hl:(c.enc x).length≤1000000000000) (e:c.enc x=c.enc y):x=y:=by
 have h1:=back c hx hl
 rw [e] at h1 hl
 rw [back c hy hl] at h1
 exact h1.symm
end Cd
theorem xAp (s:List UInt8):xZ (zBk s)=s:=by
 simp [xZ,zBk,Function.comp_def]
theorem xAd {x:List Int} (h:∀y∈x,yD y):zBk (xZ x)=x:=by
 induction x with
 |nil=>rfl
 |cons a x ih=>
  have ha:=h a (by simp)
  obtain ⟨h0,h1⟩:=ha
  have:=ih (fun y hy=>h y (by simp [hy]))
  simp only [xZ,zBk,List.map_cons,List.map_map] at this ⊢
  rw [this]
  congr 1
  simp only [UInt8.toNat_ofNat']
  omega
theorem xHt (s:List UInt8):∀y∈zBk s,yD y:=by
 intro y hy
 simp only [zBk,List.mem_map] at hy
 obtain ⟨b,_,rfl⟩:=hy
 have:=b.toNat_lt
 constructor<;>omega
theorem xLj (s:List UInt8):(zBk s).length=s.length:=by simp [zBk]
theorem xLt (x:List Int):(xZ x).length=x.length:=by simp [xZ]
def Cd.str (most:Nat) (hm:most<18446744073709551616):Cd (List UInt8):=
 (Cd.bytes most hm).iso xZ zBk (fun s=>s.length≤most) (fun x hx=>⟨by rw [xLt];exact hx.2,xAd hx.1⟩) (fun s hs=>⟨⟨xHt s,by rw [xLj];exact hs⟩,xAp s⟩)
end Go.GG
set_option linter.unusedVariables false
namespace Go.GG
theorem xS6 (a b:Nat):Nat.ble a b=decide (a≤b):=by
 by_cases h:a≤b
 ·rw [Nat.ble_eq_true_of_le h];simp [h]
 ·simp only [h,decide_false]
  cases hb:Nat.ble a b with
  |false=>rfl
  |true=>exact absurd (Nat.le_of_ble_eq_true hb) h
def M2 {α:Type} (a b:Option α):Prop:=∀y,a=some y→b=some y
namespace M2
variable {α β γ:Type}
theorem none {b:Option α}:M2 none b:=fun _ h=>by cases h
theorem const (v:Option α):M2 v v:=fun _ h=>h
theorem bind {a a':Option α} {g g':α→Option β} (h:M2 a a') (h':∀x,M2 (g x) (g' x)):M2 (a.bind fun x=>g x) (a'.bind fun x=>g' x):=by
 intro y e
 obtain ⟨x,hx,hy⟩:=Option.bind_eq_some_iff.1 e
 exact Option.bind_eq_some_iff.2 ⟨x,h _ hx,h' x _ hy⟩
theorem oelim (o:Option γ) {a a':Option α} {g g':γ→Option α} (h:M2 a a') (h':∀x,M2 (g x) (g' x)):M2 (o.elim a fun x=>g x) (o.elim a' fun x=>g' x):=by
 cases o with
 |none=>exact h
 |some x=>exact h' x
theorem cond (b:Bool) {x x' y y':Option α} (h:M2 x x') (h':M2 y y'):M2 (bif b then x else y) (bif b then x' else y'):=by
 cases b
 ·exact h'
 ·exact h
theorem elim (s:α⊕β) {f f':α→Option γ} {g g':β→Option γ} (h:∀a,M2 (f a) (f' a)) (h':∀b,M2 (g b) (g' b)):M2 (Sum.elim (fun a=>f a) (fun b=>g b) s) (Sum.elim (fun a=>f' a) (fun b=>g' b) s):=by
 cases s
 ·exact h _
 ·exact h' _
end M2
theorem Lm.m {α:Type} {f:Nat→Option α} {v:Option α} (h:Lm f v) (k:Nat):M2 (f k) (f (k+1)):=h.1 k
theorem Lm.of_m2 {α:Type} {f:Nat→Option α} (h:∀k,M2 (f k) (f (k+1))):Lm f (lim f):=Lm.of_mono h
end Go.GG
set_option linter.unusedVariables false
namespace Go.GG
section
variable {α R:Type}
theorem yPx (l:List α) (p:α→Bool) (F:Nat→R) {f:Nat→R} {a:R} (h:∀i (hi:i<l.length),F i=bif p l[i] then f i else F (i+1)) (he:F l.length=a):
 F 0=match l.findIdx? p with|some i=>f i|none=>a:=by
 have key:∀(m:Nat) (k:Nat),k+m=l.length→F k=match (l.drop k).findIdx? p with|some i=>f (k+i)|none=>a:=by
  intro m
  induction m with
  |zero=>
   intro k hk
   have:k=l.length:=by omega
   subst this
   rw [he,List.drop_length];rfl
  |succ m ih=>
   intro k hk
   have hlt:k<l.length:=by omega
   rw [h k hlt,List.drop_eq_getElem_cons hlt,List.findIdx?_cons]
   cases hp:p l[k] with
   |true=>simp
   |false=>
    rw [ih (k+1) (by omega)]
    simp only [cond_false,Bool.false_eq_true,if_false]
    cases (l.drop (k+1)).findIdx? p with
    |none=>rfl
    |some i=>simp only [Option.map_some];rw [show k+1+i=k+(i+1) by omega]
 have:=key l.length 0 (by omega)
 simpa using this
theorem yKt {S:Type} (l:List α) (g:S→α→S) (s0:S) (F:Nat→S→R) {out:S→R}
 (h:∀i (hi:i<l.length),F i ((l.take i).foldl g s0)=F (i+1) (g ((l.take i).foldl g s0) l[i])) (he:F l.length (l.foldl g s0)=out (l.foldl g s0)):F 0 s0=out (l.foldl g s0):=by
 have key:∀i,i≤l.length→F 0 s0=F i ((l.take i).foldl g s0):=by
  intro i
  induction i with
  |zero=>intro _;rfl
  |succ i ih=>
   intro hi
   rw [ih (by omega),h i (by omega),zQg (by omega),List.foldl_append]
   rfl
 rw [key l.length (Nat.le_refl _),List.take_length,he]
def yPi (lt:α→Bool) (l:List α):Nat:=(l.takeWhile lt).length
def xRk (lt:α→Bool) (l:List α):Prop:=∀i j (hi:i<l.length) (hj:j<l.length),i<j→lt l[j]=true→lt l[i]=true
theorem xFj {lt:α→Bool}:∀ {l:List α},xRk lt l→∀i (hi:i<l.length),(lt l[i]=true↔i<yPi lt l)
 | [],_,i,hi=>by simp at hi
 |x::l,h,i,hi=>by
  have hl:xRk lt l:=fun a b ha hb hab hlt=>h (a+1) (b+1) (by simpa using ha) (by simpa using hb) (by omega) (by simpa using hlt)
  unfold yPi
  rw [List.takeWhile_cons]
  cases hx:lt x with
  |true=>
   cases i with
   |zero=>simp [hx]
   |succ i=>
    have:=xFj hl i (by simpa using hi)
    simp only [List.getElem_cons_succ,if_true,List.length_cons]
    rw [this];unfold yPi;omega
  |false=>
   simp only [Bool.false_eq_true,if_false,List.length_nil,Nat.not_lt_zero,iff_false]
   intro hh
   cases i with
   |zero=>simp [hx] at hh
   |succ i=>
    have:=h 0 (i+1) (by simp) hi (by omega) hh
    simp [hx] at this
theorem xO2 (lt:α→Bool) (l:List α):l.take (yPi lt l)=l.takeWhile lt∧l.drop (yPi lt l)=l.dropWhile lt:=by
 have h:=List.takeWhile_append_dropWhile (p:=lt) (l:=l)
 unfold yPi
 constructor
 ·have:=List.take_left (l₁:=l.takeWhile lt) (l₂:=l.dropWhile lt)
  rw [h] at this;exact this
 ·have:=List.drop_left (l₁:=l.takeWhile lt) (l₂:=l.dropWhile lt)
  rw [h] at this;exact this
def zQ4 (lt eq:α→Bool) (l:List α) (h:α):List α:=l.takeWhile lt++ [h]++(l.dropWhile lt).filter fun x=> !eq x
def zD2 (lt eq:α→Bool) (h:α) (s:Bool×List α) (x:α):Bool×List α:=
 ((!s.1&& !lt x)||s.1,s.2++(bif !s.1&& !lt x then [h] else [])++(bif eq x then [] else [x]))
theorem xIu {lt eq:α→Bool} {h:α}:∀(l:List α) (o:List α),l.foldl (zD2 lt eq h) (true,o)=(true,o++l.filter fun x=> !eq x)
 | [],o=>by simp
 |x::l,o=>by
  rw [List.foldl_cons]
  have:zD2 lt eq h (true,o) x=(true,o++(bif eq x then [] else [x])):=by simp [zD2]
  rw [this,xIu l]
  cases hx:eq x<;>simp [hx]
theorem xM3 {lt eq:α→Bool} {h:α} (hne:∀x,lt x=true→eq x=false):∀(l:List α) (o:List α),
 (let r:=l.foldl (zD2 lt eq h) (false,o);bif r.1 then r.2 else r.2++ [h])=o++zQ4 lt eq l h
 | [],o=>by simp [zQ4]
 |x::l,o=>by
  simp only [List.foldl_cons]
  cases hx:lt x with
  |true=>
   have:zD2 lt eq h (false,o) x=(false,o++ [x]):=by simp [zD2,hx,hne x hx]
   rw [this]
   have:=xM3 (h:=h) hne l (o++ [x])
   simp only at this
   rw [this]
   simp [zQ4,hx]
  |false=>
   have:zD2 lt eq h (false,o) x=(true,o++ [h]++(bif eq x then [] else [x])):=by simp [zD2,hx]
   rw [this,xIu]
   simp only [cond_true]
   cases he:eq x<;>simp [zQ4,hx,he]
theorem xLi (l:List α) (p:α→Bool) (F:Int→Int→List α→Option R) (out:Int→List α→Option R)
 (hF:∀(i j:Nat) (s:List α) (hj:j<s.length),i≤j→s.length=l.length→F i j s=bif p s[j] then F i ((j+1:Nat):Int) s else F ((i+1:Nat):Int) ((j+1:Nat):Int) (s.set i s[j]))
 (hE:∀(i:Nat) (s:List α),s.length=l.length→F i (l.length:Nat) s=out i s) (i j:Nat) (s:List α) (hij:i≤j) (hjl:j≤l.length) (hs:s.length=l.length)
 (ht:s.take i=(l.take j).filter fun x=> !p x) (hd:s.drop j=l.drop j):
 ∃s',s'.length=l.length∧F i j s=out (((l.filter fun x=> !p x).length:Nat):Int) s'∧s'.take (l.filter fun x=> !p x).length=l.filter fun x=> !p x:=by
 have key:∀(m i j:Nat) (s:List α),j+m=l.length→i≤j→s.length=l.length→s.take i=((l.take j).filter fun x=> !p x)→s.drop j=l.drop j→
  ∃s',s'.length=l.length∧F i j s=out (((l.filter fun x=> !p x).length:Nat):Int) s'∧s'.take (l.filter fun x=> !p x).length=l.filter fun x=> !p x:=by
  intro m
  induction m with
  |zero=>
   intro i j s hj hij hs ht hd
   obtain rfl:j=l.length:=by omega
   rw [List.take_length] at ht
   have hi:i=(l.filter fun x=> !p x).length:=by
    have:=congrArg List.length ht
    rw [List.length_take] at this
    omega
   refine ⟨s,hs, ?_,by rw [←hi];exact ht⟩
   rw [hE i s hs,hi]
  |succ m ih=>
   intro i j s hj hij hs ht hd
   have hjs:j<s.length:=by omega
   have hjl:j<l.length:=by omega
   have he:s[j]=l[j]:=by
    have h1:(s.drop j)[0]? =(l.drop j)[0]? :=by rw [hd]
    simp only [List.getElem?_drop,Nat.add_zero] at h1
    rw [List.getElem?_eq_getElem hjs,List.getElem?_eq_getElem hjl] at h1
    exact Option.some.inj h1
   have hd':s.drop (j+1)=l.drop (j+1):=by
    have:=congrArg (List.drop 1) hd
    simpa [List.drop_drop] using this
   rw [hF i j s hjs hij hs]
   have hft:(l.take (j+1)).filter (fun x=> !p x)=(l.take j).filter (fun x=> !p x)++(bif p l[j] then [] else [l[j]]):=by
    rw [zQg hjl,List.filter_append]
    cases hp:p l[j]<;>simp [hp]
   rw [he]
   cases hp:p l[j] with
   |true=>
    simp only [cond_true]
    exact ih i (j+1) s (by omega) (by omega) hs (by rw [hft,hp];simpa using ht) hd'
   |false=>
    simp only [cond_false]
    refine ih (i+1) (j+1) _ (by omega) (by omega) (by simpa using hs) ?_ ?_
    ·rw [hft,hp]
     have hi:i<s.length:=by omega
     rw [zQg (by simpa using hi),List.take_set_of_le (Nat.le_refl _),ht]
     simp
    ·rw [List.drop_set_of_lt (by omega)];exact hd'
 exact key (l.length-j) i j s (by omega) hij hs ht hd
end
end Go.GG
set_option linter.unusedVariables false
namespace Go.GG
section
variable {α:Type}
structure Ord (α:Type) where
 lt:α→α→Bool
 irr:∀a,lt a a=false
 trans:∀a b c,lt a b=true→lt b c=true→lt a c=true
 tot:∀a b,lt a b=false→lt b a=false→a=b
def xQt:Ord Str:=⟨xD,zIg,fun _ _ _ h1 h2=>zQn h1 h2,fun a b h1 h2=>by
 rcases zQh a b with h3|h3|h3
 ·rw [h1] at h3;cases h3
 ·exact h3
 ·rw [h2] at h3;cases h3⟩
variable {K:Type} (O:Ord K) (key:α→K)
def Sorted (l:List α):Prop:=l.Pairwise fun a b=>O.lt (key a) (key b)=true
variable {O key}
theorem Sorted.fore {l:List α} (h:Sorted O key l) (k:K):xRk (fun x=>O.lt (key x) k) l:=by
 intro i j hi hj hij hlt
 have:=List.pairwise_iff_getElem.1 h i j hi hj hij
 exact O.trans _ _ _ this hlt
theorem xCu {p:α→Bool} {l:List α} {x:α} {r:List α} (h:l.dropWhile p=x::r):p x=false:=by
 induction l with
 |nil=>cases h
 |cons y l ih=>
  rw [List.dropWhile_cons] at h
  cases hp:p y with
  |true=>rw [hp] at h;exact ih h
  |false=>rw [hp] at h;simp at h;rw [←h.1];exact hp
theorem zWp {p:α→Bool}:∀ {l:List α} {x:α},x∈l.takeWhile p→p x=true
 | [],_,h=>by simp at h
 |y::l,x,h=>by
  rw [List.takeWhile_cons] at h
  cases hp:p y with
  |true=>
   rw [hp] at h
   simp only [if_true,List.mem_cons] at h
   rcases h with rfl|h
   ·exact hp
   ·exact zWp h
  |false=>rw [hp] at h;simp at h
theorem xNs {lt eq:α→Bool} {l:List α} {h:α} (P:α→α→Prop) (hs:l.Pairwise P) (h1:∀x∈l,lt x=true→P x h) (h2:∀x∈l.dropWhile lt,eq x=false→P h x):(zQ4 lt eq l h).Pairwise P:=by
 have hl:=List.takeWhile_append_dropWhile (p:=lt) (l:=l)
 rw [←hl] at hs
 have hp:=List.pairwise_append.1 hs
 unfold zQ4
 rw [List.append_assoc,List.pairwise_append]
 refine ⟨hp.1, ?_, ?_⟩
 ·rw [List.singleton_append,List.pairwise_cons]
  refine ⟨fun x hx=> ?_,hp.2.1.sublist List.filter_sublist⟩
  have:=List.mem_filter.1 hx
  exact h2 x this.1 (by simpa using this.2)
 ·intro x hx y hy
  simp only [List.mem_append,List.mem_singleton] at hy
  rcases hy with rfl|hy
  ·have hm:=zWp hx
   exact h1 x (by rw [←hl];exact List.mem_append_left _ hx) hm
  ·exact hp.2.2 x hx y (List.mem_filter.1 hy).1
theorem zZp {lt eq:α→Bool} {l:List α} {h:α} (hne:∀x,lt x=true→eq x=false) (he:eq h=true):(zQ4 lt eq l h).find? eq=some h:=by
 unfold zQ4
 rw [List.append_assoc,List.find?_append]
 have:(l.takeWhile lt).find? eq=none:=by
  rw [List.find?_eq_none]
  intro x hx
  rw [hne x (zWp hx)];simp
 rw [this]
 simp [he]
theorem xDx {lt eq:α→Bool} {h:α}:∀(l:List α) (s:Bool×List α),(l.foldl (zD2 lt eq h) s).2.length≤s.2.length+2*l.length
 | [],s=>by simp
 |x::l,s=>by
  rw [List.foldl_cons]
  have:=xDx (lt:=lt) (eq:=eq) (h:=h) l (zD2 lt eq h s x)
  have h2:(zD2 lt eq h s x).2.length≤s.2.length+2:=by
   unfold zD2
   cases (!s.1&& !lt x)<;>cases eq x<;>simp<;>omega
  simp only [List.length_cons];omega
theorem xOs (lt eq:α→Bool) (l:List α) (h:α):(zQ4 lt eq l h).length≤l.length+1:=by
 have hl:=congrArg List.length (List.takeWhile_append_dropWhile (p:=lt) (l:=l))
 rw [List.length_append] at hl
 have:=List.length_filter_le (fun x=> !eq x) (l.dropWhile lt)
 simp only [zQ4,List.length_append,List.length_singleton];omega
end
end Go.GG
set_option linter.unusedVariables false
namespace Go.GG
abbrev yUr (l:List Int):Prop:=l.Pairwise (· < ·)
theorem yUr.nodup {l:List Int} (h:yUr l):l.Nodup:=List.Pairwise.imp (fun h=>by omega) h
theorem yUr.ext {a b:List Int} (ha:yUr a) (hb:yUr b) (h:∀x,x∈a↔x∈b):a=b:=
 List.Perm.eq_of_pairwise (fun x y _ _ h1 h2=>by omega) ha hb ((List.perm_ext_iff_of_nodup ha.nodup hb.nodup).2 h)
theorem yUr.filter {l:List Int} (h:yUr l) (p:Int→Bool):yUr (l.filter p):=List.Pairwise.filter p h
section
variable {α R:Type}
theorem xR9 (l:List α) (p:α→Bool) (F:Nat→R) {a b:R} (h:∀i (hi:i<l.length),F i=bif p l[i] then b else F (i+1)) (he:F l.length=a):F 0=bif l.any p then b else a:=by
 rw [yPx l p F (f:=fun _=>b) (a:=a) h he]
 cases hi:l.findIdx? p with
 |none=>
  rw [List.findIdx?_eq_none_iff] at hi
  have:l.any p=false:=by rw [List.any_eq_false];intro x hx;rw [hi x hx];simp
  rw [this];rfl
 |some i=>
  obtain ⟨h1,h2,_⟩:=List.findIdx?_eq_some_iff_getElem.1 hi
  have:l.any p=true:=List.any_eq_true.2 ⟨_,List.getElem_mem h1,h2⟩
  rw [this];rfl
theorem xHy (l:List α) (p:α→Bool) (F:Nat→R) {a b:R} (h:∀i (hi:i<l.length),F i=bif p l[i] then F (i+1) else b) (he:F l.length=a):F 0=bif l.all p then a else b:=by
 have:=xR9 l (fun x=> !p x) F (a:=a) (b:=b) (fun i hi=>by rw [h i hi];cases p l[i]<;>rfl) he
 rw [this,List.all_eq_not_any_not]
 cases l.any (fun x=> !p x)<;>rfl
theorem yIj (p:α→Bool):∀(l o:List α),l.foldl (fun o x=>bif p x then o++ [x] else o) o=o++l.filter p
 | [],o=>by simp
 |x::l,o=>by
  rw [List.foldl_cons,yIj p l]
  cases hp:p x<;>simp [hp]
end
end Go.GG
