/- A part of our own proof. -/
import Derived.Test.YtlhifcknhgmidaaGreatDoorK6
import Derived.Test.YtlhifcknhgmidaaGreatDoorM
open Go Go.GG
set_option linter.unusedVariables false
namespace Go.Proofs.YtlhifcknhgmidaaGreatDoor.gg
theorem xUp (b:List Int):yEk b=some b:=by simp [yEk,yHw,xS8]
theorem xVj:∀(n:Nat) (b:List Int),n<18446744073709551616→b.length+(yL n).length≤100000000000000→
 ∃(m:Nat) (q:List Int),zJt n b=some ((m:Int),b++q)∧q++ [(m:Int)]=yL n∧m<128:=by
 intro n
 induction n using Nat.strongRecOn with
 |_ n ih=>
  intro b hn hb
  rw [yUm];unfold zNq
  by_cases h:n<128
  ·rw [show (decide ((n:Int)≥128))=false from decide_eq_false (by omega)]
   exact ⟨n, [],by simp,by rw [zX3 h];rfl,h⟩
  ·rw [show (decide ((n:Int)≥128))=true from decide_eq_true (by omega)]
   have e1:xH .or .u8 (IntKind.wrap .u8 (n:Int)) 128=((n % 128+128:Nat):Int):=by
    rw [wrap_u8,xVe (by omega) (by omega)];omega
   have e2:zB2 .u64 (n:Int) 7=((n/128:Nat):Int):=by
    rw [show (7:Int)=((7:Nat):Int) from rfl,xTt 7 (by omega)];omega
   rw [yBz h] at hb ⊢
   simp only [List.length_cons] at hb
   rw [e1,e2,yT (by simp;omega)]
   obtain ⟨m,q,h1,h2,h3⟩:=ih (n/128) (by omega) (b++ [((n % 128+128:Nat):Int)]) (by omega) (by simp;omega)
   refine ⟨m,((n % 128+128:Nat):Int)::q, ?_, ?_,h3⟩
   ·rw [cond_true,h1];simp
   ·rw [List.cons_append,h2]
theorem xAv (b:List Int) (n:Nat) (hn:n<18446744073709551616) (hb:b.length≤10000000000000):zGv b n=some (b++yL n):=by
 obtain ⟨m,q,h1,h2,h3⟩:=xVj n b hn (by have:=zH2 hn;omega)
 unfold zGv zT5
 rw [xUp]
 simp only [Option.bind_some,h1]
 have hl:=congrArg List.length h2
 have:=zH2 hn
 simp at hl
 rw [yT (by simp;omega),cond_true,wrap_u8,Int.emod_eq_of_lt (by omega) (by omega),List.append_assoc,h2]
theorem xSp:∀(n:Nat) (b:List Int),n<18446744073709551616→b.length+(yL n).length≤100000000000000→
 ∃(m:Nat) (q:List Int),zHf n b=some ((m:Int),b++q)∧q++ [(m:Int)]=yL n∧m<128:=by
 intro n
 induction n using Nat.strongRecOn with
 |_ n ih=>
  intro b hn hb
  rw [ySi];unfold zLg
  by_cases h:n<128
  ·rw [show (decide ((n:Int)≥128))=false from decide_eq_false (by omega)]
   exact ⟨n, [],by simp,by rw [zX3 h];rfl,h⟩
  ·rw [show (decide ((n:Int)≥128))=true from decide_eq_true (by omega)]
   have e1:IntKind.wrap .u8 ((IntKind.wrap .u8 (Int.tmod (n:Int) 128))+128)=((n % 128+128:Nat):Int):=by
    rw [Int.tmod_eq_emod_of_nonneg (by omega),wrap_u8,wrap_u8];omega
   have e2:IntKind.wrap .u64 (Int.tdiv (n:Int) 128)=((n/128:Nat):Int):=by
    rw [Int.tdiv_eq_ediv_of_nonneg (by omega),yJj];omega
   rw [yBz h] at hb ⊢
   simp only [List.length_cons] at hb
   rw [e1,e2,yT (by simp;omega)]
   obtain ⟨m,q,h1,h2,h3⟩:=ih (n/128) (by omega) (b++ [((n % 128+128:Nat):Int)]) (by omega) (by simp;omega)
   refine ⟨m,((n % 128+128:Nat):Int)::q, ?_, ?_,h3⟩
   ·rw [cond_true,h1];simp
   ·rw [List.cons_append,h2]
theorem zG6 (n:Nat) (hn:n<18446744073709551616):jP n=some (yL n):=by
 obtain ⟨m,q,h1,h2,h3⟩:=xSp n [] hn (by have:=zH2 hn;simp;omega)
 unfold jP zR7
 simp only [Option.bind_some,h1,List.nil_append]
 have hl:=congrArg List.length h2
 have:=zH2 hn
 simp at hl
 rw [yT (by simp;omega),cond_true,wrap_u8,Int.emod_eq_of_lt (by omega) (by omega),h2]
theorem xDd (n:Int) (h0:0≤n) (hn:n<18446744073709551616):jP n=some (yL n.toNat):=by
 have:=zG6 n.toNat (by omega)
 rwa [Int.toNat_of_nonneg h0] at this
theorem xMy (l:List Int) (hl:l.length≤1000000000000) (hb:∀x∈l,yD x) (r:Rd):∀(s:List Int) (k a:Nat),l.drop k=s→k≤9→a<128^k→
 zDf a l l.length k r=some (match vJ k a s with|none=> .inl r|some (v,c)=> .inr ((v:Int),(c:Int),r))
 | [],k,a,hs,hk,ha=>by
   rw [zVo];unfold zCd
   have:=congrArg List.length hs
   simp at this
   rw [show (decide ((k:Int)<(l.length:Int)))=false from decide_eq_false (by omega)]
   simp [vJ]
 |c::s,k,a,hs,hk,ha=>by
  have hlen:=congrArg List.length hs
  simp at hlen
  have hkl:k<l.length:=by omega
  have hc:l[k]=c:=by
   have:=congrArg (fun x=>x[0]?) hs
   simp at this
   obtain ⟨_,h⟩:=List.getElem?_eq_some_iff.1 this;exact h
  have hcb:yD c:=hb c (hc▸List.getElem_mem hkl)
  have hs':l.drop (k+1)=s:=by rw [←List.drop_drop,hs];rfl
  rw [zVo];unfold zCd;rw [show (decide ((k:Int)<(l.length:Int)))=true from decide_eq_true (by omega),wY hkl,hc]
  simp only [cond_true,Option.bind_some,vJ,xQ3]
  obtain ⟨hc0,hc1⟩:=hcb
  have hroom:decide ((0:Int)≤IntKind.wrap .i64 (7*(k:Int)))=true:=by rw [yQ (by omega) (by omega)];exact decide_eq_true (by omega)
  have hk1:IntKind.wrap .i64 ((k:Int)+1)=((k+1:Nat):Int):=by rw [yQ (by omega) (by omega)];omega
  rw [hroom,hk1]
  by_cases h9:k=9∧c>1
  ·have:((k:Int)==9)=true:=by simp;omega
   simp [h9.1,h9.2]
  ·have hd:∀(_:k=9),c % 128≤1:=fun e=>by
    have:¬c>1:=fun h=>h9 ⟨e,h⟩
    omega
   have hdig:=xUz (a:=a) (k:=k) (c:=c) ha hk ⟨hc0,hc1⟩ hd
   rw [hdig]
   have ih:=fun (h:k+1≤9)=>xMy l hl hb r s (k+1) (a+c.toNat % 128*128^k) hs' h (xH0 ha)
   by_cases h0:c=0∧k>0
   ·simp [h0.1,h0.2]
   ·by_cases hlt:c<128
    ·have:¬((k=9∧c>1)∨(c=0∧k>0)):=by rintro (h|h);exact h9 h;exact h0 h
     rw [if_neg this,if_pos hlt]
     by_cases hz:c=0
     ·have hk0:k=0:=by omega
      subst hz;subst hk0;simp
     ·by_cases he:(k:Int)=9
      ·have:¬c>1:=fun h=>h9 ⟨by omega,h⟩
       have hzb:(c==0)=false:=by simp;exact hz
       simp [he,hzb,hlt,this]
      ·have he':k≠9:=by omega
       have h7:((k:Int)==9)=false:=by simp;omega
       have hzb:(c==0)=false:=by simp;exact hz
       simp [h7,hzb,hlt]
    ·have hk9:k≠9:=fun e=>h9 ⟨e,by omega⟩
     have:¬((k=9∧c>1)∨(c=0∧k>0)):=by rintro (h|h);exact h9 h;exact h0 h
     rw [if_neg this,if_neg hlt,←ih (by omega)]
     have h7:((k:Int)==9)=false:=by simp;omega
     have hz:(c==0)=false:=by simp;omega
     simp [h7,hz,hlt]
theorem zJb (xs:List Int) (i:Int):cut xs i (xs.length:Int)=xs.drop i.toNat:=by simp [cut]
theorem xTk {s:Rd} (h:zAm s):zHo s=some (match vJ 0 0 (rest s) with|none=>(0,0,s)|some (v,c)=>((v:Int),(c:Int),s)):=by
 have h1:=h.lo;have h2:=h.hi;have h3:=h.big
 have hr:=h.rest_len
 unfold zHo zLd
 rw [decide_eq_true (by omega:(0:Int)≤s.2.1),decide_eq_true (by omega:s.2.1≤(s.1.length:Int)),decide_eq_true (Int.le_refl _)]
 simp only [Bool.and_self,cond_true,zJb]
 have:=xMy (rest s) (by omega) h.rest_byte s (rest s) 0 0 rfl (by omega) (by decide)
 simp only [rest] at this ⊢
 simp only [Int.natCast_zero,show ((0:Nat):Int)=0 from rfl] at this
 rw [this]
 cases vJ 0 0 (s.1.drop s.2.1.toNat) with
 |none=>rfl
 |some p=>rfl
theorem xTj (s:Rd):zNo s=some ((s.2.2==0),s):=rfl
theorem xTg (s:Rd) (e:Int) (h:s.2.2=0):zHh s e=some (zSd s e):=by simp [zHh,zLh,h,zSd]
theorem xLl {s:Rd} (h:zAm s):zDs s=some (rU s):=by
 have h1:=h.lo;have h2:=h.hi;have h3:=h.big
 unfold zDs zGl rU
 rw [xTj]
 by_cases h0:s.2.2=0
 ·simp only [Option.bind_some,h0,beq_self_eq_true,Bool.not_true,cond_false,if_true,xTk h]
  cases hg:vJ 0 0 (rest s) with
  |none=>
   simp only [Option.bind_some,beq_self_eq_true,cond_true,xTg s 5 h0]
   have e:IntKind.wrap .i64 ((zSd s 5).2.1+0)=s.2.1:=by simp only [zSd];rw [yQ (by omega) (by omega)];omega
   rw [e];rfl
  |some p=>
   obtain ⟨v,c⟩:=p
   obtain ⟨_,hc0,_,hc1,_⟩:=zD5 h.rest_byte hg
   have:=h.rest_len
   have e0:((c:Int)==0)=false:=by simp;omega
   simp only [Option.bind_some,e0,cond_false]
   rw [yQ (n:=s.2.1+(c:Int)) (by omega) (by omega)]
   rfl
 ·have:(s.2.2==0)=false:=by simp [h0]
  simp [this,h0]
theorem xSc (b:List Int) (hb:b.length≤1000000000000):zYw b=some (b,0,0):=by
 unfold zYw yC8 yV jQ
 rw [yT (by simp;omega)];simp
theorem yP8 (b:List Int) (hb:b.length≤1000000000000) (h:∀x∈b,yD x):zAm (b,0,0):=⟨h,by simp,by simp,hb⟩
theorem xFn (b:List Int):rest (b,0,0)=b:=by simp [rest]
theorem xMp {s:Rd} (h:zAm s) (h0:s.2.2=0):zMo s=some (match rest s with| []=>(0,false,s)|c::_=>(c,true,rto s 1)):=by
 have h1:=h.lo;have h2:=h.hi;have h3:=h.big;have h4:=h.rest_len
 unfold zMo zTv
 simp only [h0,bne_self_eq_false,cond_false]
 cases hr:rest s with
 |nil=>rw [hr] at h4;simp at h4;rw [decide_eq_true (by omega)];rfl
 |cons c t=>
  rw [hr] at h4;simp at h4
  rw [decide_eq_false (by omega:¬s.2.1≥(s.1.length:Int)),yQ (n:=s.2.1+1) (by omega) (by omega),yQ (n:=s.2.1+1-1) (by omega) (by omega)]
  have e:s.2.1+1-1=((s.2.1.toNat:Nat):Int):=by omega
  have hlt:s.2.1.toNat<s.1.length:=by omega
  have hc:s.1[s.2.1.toNat]=c:=by
   have:=congrArg (fun x=>x[0]?) hr
   simp [rest] at this
   obtain ⟨_,h⟩:=List.getElem?_eq_some_iff.1 this;exact h
  rw [e,wY hlt,hc]
  simp [rto,h0]
theorem xM0 (b:List Int) (from_:Int):∀(l:List Int) (s:Rd) (k a:Nat),zAm s→s.2.2=0→s.1=b→rest s=l→k≤9→a<128^k→
 ∃o,zBt from_ a k s=some o∧(match vJ k a l with|none=>∃s',o= .inl (from_,s')∧s'.1=b∧s'.2.2=0|some (v,c)=>o= .inr ((v:Int),rto s (c-k)))
 | [],s,k,a,h,h0,hb,hr,hk,ha=>by
   rw [zDa];unfold jE;rw [xMp h h0,hr,decide_eq_true (by omega:(k:Int)<10)]
   exact ⟨_,rfl,s,by simp,hb,h0⟩
 |c::t,s,k,a,h,h0,hb,hr,hk,ha=>by
  have h1:=h.lo;have h2:=h.hi;have h3:=h.big;have h4:=h.rest_len
  rw [hr] at h4;simp at h4
  have hcb:yD c:=h.rest_byte c (by rw [hr];simp)
  have hs1:zAm (rto s 1):=yOu h (by rw [hr];simp)
  have hr1:rest (rto s 1)=t:=by rw [yI7 h,hr];rfl
  rw [zDa];unfold jE;rw [xMp h h0,hr,decide_eq_true (by omega:(k:Int)<10)]
  simp only [cond_true,Option.bind_some,Bool.not_true,cond_false,xQ3,vJ]
  obtain ⟨hc0,hc1⟩:=hcb
  have hroom:decide ((0:Int)≤IntKind.wrap .u64 (IntKind.wrap .i64 (7*(k:Int))))=true:=by rw [yQ (by omega) (by omega),zBo (by omega) (by omega)];exact decide_eq_true (by omega)
  have hk1:IntKind.wrap .i64 ((k:Int)+1)=((k+1:Nat):Int):=by rw [yQ (by omega) (by omega)];omega
  have hm:IntKind.wrap .u64 (Int.tmod c 128)=c % 128:=by rw [Int.tmod_eq_emod_of_nonneg hc0,zBo (by omega) (by omega)]
  rw [hroom,hk1]
  have inl:∀(o:(Int×Rd)⊕(Int×Rd)),o= .inl (from_,rto s 1)→∃s',o= .inl (from_,s')∧s'.1=b∧s'.2.2=0:=fun o e=>⟨_,e,hb,h0⟩
  by_cases h9:k=9∧c>1
  ·have:¬(c % 128>1)→c≥128:=by intro;omega
   rw [if_pos (.inl h9)]
   obtain ⟨rfl,hc⟩:=h9
   by_cases hg:c % 128>1
   ·refine ⟨_, ?_,inl _ rfl⟩
    rw [hm];simp [hg]
   ·have hge:¬c<128:=by omega
    refine ⟨.inl (from_,rto s 1), ?_,inl _ rfl⟩
    rw [hm]
    simp [hg,hge]
    rw [zDa];unfold jE
    simp
  ·have hd:∀(_:k=9),c % 128≤1:=fun e=>by
    have:¬c>1:=fun h=>h9 ⟨e,h⟩
    omega
   have hdig:=xU2 (a:=a) (k:=k) (c:=c) ha hk ⟨hc0,hc1⟩ hd
   rw [hdig,hm]
   by_cases h00:c=0∧k>0
   ·rw [if_pos (.inr h00)]
    refine ⟨_, ?_,inl _ rfl⟩
    simp [h00.1,h00.2]
   ·have hn:¬((k=9∧c>1)∨(c=0∧k>0)):=by rintro (h|h);exact h9 h;exact h00 h
    rw [if_neg hn]
    by_cases hlt:c<128
    ·rw [if_pos hlt]
     refine ⟨_, ?_,rfl⟩
     have hgt:(k:Int)=9→¬c % 128>1:=fun e=>by have:=hd (by omega);omega
     by_cases hz:c=0
     ·have hk0:k=0:=by omega
      subst hz;subst hk0;simp
     ·by_cases he:(k:Int)=9
      ·have h5:=hgt he
       have hzb:(c==0)=false:=by simp;exact hz
       simp [he,hzb,hlt,h5]
      ·have h7:((k:Int)==9)=false:=by simp;omega
       have hzb:(c==0)=false:=by simp;exact hz
       simp [h7,hzb,hlt]
    ·rw [if_neg hlt]
     have hk9:k≠9:=fun e=>h9 ⟨e,by omega⟩
     obtain ⟨o,ho,hm'⟩:=xM0 b from_ t (rto s 1) (k+1) (a+c.toNat % 128*128^k) hs1 h0 hb hr1 (by omega) (xH0 ha)
     refine ⟨o, ?_, ?_⟩
     ·have h7:((k:Int)==9)=false:=by simp;omega
      simp only [h7,cond_false,cond_true,decide_eq_false hlt]
      exact ho
     ·cases hg:vJ (k+1) (a+c.toNat % 128*128^k) t with
      |none=>rw [hg] at hm';exact hm'
      |some p=>
       obtain ⟨v,c'⟩:=p
       rw [hg] at hm'
       simp only at hm' ⊢
       rw [hm']
       obtain ⟨m,_,_,_,hc',_⟩:=yOy t (k+1) _ v c' (by omega) (fun x hx=>h.rest_byte x (by rw [hr];simp [hx])) hg
       have e:s.2.1+((1:Nat):Int)+((c'-(k+1):Nat):Int)=s.2.1+((c'-k:Nat):Int):=by omega
       simp only [rto,e]
theorem xMz {s:Rd} (h:zAm s):zAe s=some (rU s):=by
 unfold zAe zJy rU
 by_cases h0:s.2.2=0
 ·obtain ⟨o,h1,h2⟩:=xM0 s.1 s.2.1 (rest s) s 0 0 h h0 rfl rfl (by omega) (by decide)
  simp only [show ((0:Nat):Int)=0 from rfl] at h1
  simp only [xQ3,h1,Option.bind_some,if_pos h0]
  cases hg:vJ 0 0 (rest s) with
  |none=>
   rw [hg] at h2
   obtain ⟨s',rfl,h3,h4⟩:=h2
   simp [zTb,zQ8,h4,zSd,h3]
  |some p=>
   obtain ⟨v,c⟩:=p
   rw [hg] at h2
   simp only at h2
   rw [h2];rfl
 ·have h1:(s.2.2 !=0)=true:=by simp [h0]
  have h2:(s.2.2==0)=false:=by simp [h0]
  have hn:zMo s=some (0,false,s):=by simp [zMo,zTv,h1]
  rw [if_neg h0,zDa];unfold jE
  simp [hn,zTb,zQ8,h2]
theorem xLz {a b:List Int} (ha:∀x∈a,yD x) (hb:∀x∈b,yD x):(xZ a==xZ b)=true↔a=b:=by
 rw [beq_iff_eq]
 refine ⟨fun h=> ?_,fun h=>by rw [h]⟩
 induction a generalizing b with
 |nil=>cases b with
  |nil=>rfl
  |cons y b=>simp [xZ] at h
 |cons x a ih=>cases b with
  |nil=>simp [xZ] at h
  |cons y b=>
   simp only [xZ,List.map_cons,List.cons.injEq] at h
   have hx:=ha x (by simp);have hy:=hb y (by simp)
   obtain ⟨hx0,hx1⟩:=hx;obtain ⟨hy0,hy1⟩:=hy
   have h1:=congrArg UInt8.toNat h.1
   simp only [UInt8.toNat_ofNat'] at h1
   rw [Nat.mod_eq_of_lt (by omega),Nat.mod_eq_of_lt (by omega)] at h1
   rw [ih (fun z hz=>ha z (by simp [hz])) (fun z hz=>hb z (by simp [hz])) h.2]
   congr 1;omega
end Go.Proofs.YtlhifcknhgmidaaGreatDoor.gg
