/- A part of our own proof. -/
import Derived.Test.YtlhifcknhgmidaaGreatDoorWK
open Go Go.GG Go.Proofs
set_option linter.unusedVariables false
namespace Go.Proofs.YtlhifcknhgmidaaGreatDoor.gg
theorem xT9 {α:Type} {b:List Int} (hb:∀x∈b,yD x) {n:Nat} (h0:0<n) (h10:n≤10) (hn:n≤b.length) (K1:Int→Option α) (K2:Option α):
 ((zAe ((b.take n),(0,0))).bind fun r1=>((jP r1.1).bind fun r2=>(bif ((xZ r2)==(xZ (b.take n))) then K1 r1.1 else K2)))=
   (match vJ 0 0 b with|none=>K2|some (v,c)=>if c=n then K1 (v:Int) else K2):=by
 have hlt:(b.take n).length=n:=by rw [List.length_take];omega
 have hbt:∀x∈b.take n,yD x:=fun x hx=>hb x (List.mem_of_mem_take hx)
 have hv:=yZ1 hb h0 h10 hn
 unfold zF8 zQ0 at hv
 rw [xMz (yP8 (b.take n) (by omega) hbt)] at hv ⊢
 simp only [Option.bind_some] at hv ⊢
 have hr:=xJq (yP8 (b.take n) (by omega) hbt)
 generalize (rU (b.take n,0,0)).1=r at hv hr ⊢
 rw [xDd r hr.1 hr.2] at hv ⊢
 simp only [Option.bind_some,Option.some.injEq,Prod.mk.injEq] at hv ⊢
 rcases hv with ⟨v,hg,hq,ht⟩|⟨hg,x,hq,ht⟩
 ·rw [ht,hg,hq]
  simp
 ·rw [ht]
  simp only [cond_false]
  cases hg':vJ 0 0 b with
  |none=>rfl
  |some p=>
   obtain ⟨v,c⟩:=p
   simp only
   rw [if_neg]
   intro hc
   subst hc
   exact hg v hg'
theorem xQ7 {i:Nat} {d:List Int} (h1:1≤i) (hi2:i<18446744073709551616) (h:ROk d) (v:Int):zIh v 1 0 (1,yL i++d)=some (.inr (v,((i:Int),d))):=by
 have hg:vJ 0 0 (yL i++d)=some (i,(yL i).length):=zEa hi2 d
 have hb:=yCl (i:=i) h
 have hpl:=zIj hi2 h
 obtain ⟨_,hc0,hc10,hcl,_,_⟩:=zD5 hb hg
 have hdl:=h.len
 have key:=zTm (S:=Unit) ((yL i).length) (fun j _=>zIh v ((j+1:Nat):Int) 0 (1,yL i++d)) (fun j _=>j<(yL i).length) (fun r=>r=some (.inr (v,((i:Int),d))))
  (fun j s hj hs=>by
   try dsimp only
   rw [yYp];unfold zSb;rw [decide_eq_true (by simp only;omega:((j+1:Nat):Int)≤(((1,yL i++d):Int×List Int).2.length:Int)),decide_eq_true (by omega:((j+1:Nat):Int)≤10),decide_eq_true (by omega:(0:Int)≤((j+1:Nat):Int)),xKo,yW (by omega)]
   simp only [Bool.and_self,Bool.true_and,cond_true]
   rw [xT9 (α:=Int⊕(Int×(Int×List Int))) hb (by omega) (by omega) (by omega) (fun r=>(bif (r==0) then some (.inr (0,(0, []))) else (bif (decide ((IntKind.wrap .i64 (((yL i++d).length:Int)-((j+1:Nat):Int)))>4096)) then some (.inr (0,(0, []))) else (bif (decide (((yL i++d).length:Int)≤((yL i++d).length:Int))) then some (.inr (v,(r,(cut (yL i++d) ((j+1:Nat):Int) ((yL i++d).length:Int))))) else none)))),hg]
   simp only
   by_cases hc:(yL i).length=j+1
   ·right
    rw [if_pos hc,←hc]
    have z:((i:Int)==0)=false:=by rw [beq_eq_false_iff_ne];omega
    have e2:IntKind.wrap .i64 (((yL i++d).length:Int)-((yL i).length:Int))=(d.length:Int):=by
     rw [List.length_append] at hpl ⊢
     rw [yQ (by omega) (by omega)];omega
    rw [z,cond_false,e2,decide_eq_false (by omega:¬(d.length:Int)>4096),cond_false,decide_eq_true (by omega:((yL i++d).length:Int)≤((yL i++d).length:Int)),cond_true,zJb,Int.toNat_natCast,List.drop_left]
   ·left
    rw [if_neg hc]
    exact ⟨(),rfl,by omega⟩)
  (fun s hs=>absurd hs (Nat.lt_irrefl _)) 0 () (Nat.zero_le _) hc0
 exact key
theorem xUx {i:Nat} {d t:List Int} (hi:1≤i) (hi2:i<18446744073709551616) (h:ROk d) (ht:∀x∈t,yD x) (hl:t.length≤90000000):zPp (rb i d++t)=some (((i:Int),d),((rb i d).length:Int)):=by
 have hrl:=zZg hi2 h
 unfold zPp zVq
 rw [xAn (by rw [List.length_append];omega) (by
  intro x hx
  rcases List.mem_append.1 hx with hx|hx
  ·exact xCg h x hx
  ·exact ht x hx),xM5 hi2 h]
 have e0:((0:Int) !=0)=false:=by decide
 have e1:((1:Int) !=1)=false:=by decide
 simp only [Option.bind_some,e0,e1,cond_false]
 rw [xQ7 hi hi2 h]
 rfl
theorem xS4 {b:List Int} (hl:b.length≤100000000) (hb:∀x∈b,yD x) (h:Bad b):zPp b=some ((0, []),0):=by
 unfold zPp zVq
 rw [xAn hl hb]
 have e:((zDl b).2.2.2 !=0)=true:=by rw [bne_iff_ne];exact h
 simp only [Option.bind_some,e,cond_true]
def wB:Nat→Nat→List Sg→List (Int×List (Int×List Int)×List Int)
 |_,_, []=> []
 |i,b,s::r=>((i:Int),vC b s.1,yI b 0 s.1)::wB (i+1) (b+s.1.length) r
theorem vO:∀i b S,(wB i b S).length=S.length
 |_,_, []=>rfl
 |i,b,s::r=>by rw [wB,List.length_cons,vO,List.length_cons]
theorem xFr:∀(i b:Nat) (A B:List Sg),wB i b (A++B)=wB i b A++wB (i+A.length) (b+cnt A) B
 |i,b, [],B=>rfl
 |i,b,a::A,B=>by
  rw [List.cons_append,wB,wB,xFr (i+1) _ A B,List.length_cons,cnt,List.cons_append,show i+1+A.length=i+(A.length+1) by omega,Nat.add_assoc b]
theorem yQh (i b:Nat) (A B:List Sg) (s:Sg):(wB i b (A++s::B))[A.length]? =some (((i+A.length:Nat):Int),vC (b+cnt A) s.1,yI (b+cnt A) 0 s.1):=by
 rw [xFr,List.getElem?_append_right (by rw [vO];omega),vO,Nat.sub_self]
 rfl
theorem xIz {b nx n i:Nat} {t:List Int} {L:FL} {f:FI} {O:List (Int×List (Int×List Int)×List Int)} (ht:yE8 t) (hnx:nx=0∨nx=b) (hO:O.length≤100) (hi:i<L.length) (hLi:L[i]=f):
 ∀(R2 R1:List (List Int)),GOk b (R1++R2)→(enc b (R1++R2)).length≤9000→f.2.1=enc b (R1++R2)++t→(t≠ []→b+(R1++R2).length<18446744073709551616)→b+R1.length<18446744073709551616→
 kQ L (nxt nx b R1:Int) (n:Int) (i:Int) ((enc b R1).length:Int) O (i:Int) (vC b R1) (yI b 0 R1)=
  if t≠ []∨(R2≠ []∧b+(R1++R2).length=18446744073709551616) then some (.inr (O++ [((i:Int),vC b (R1++R2),yI b 0 (R1++R2))]))
  else some (.inl (L,(nxt nx b (R1++R2):Int),(n:Int),(i:Int),O,(i:Int),vC b (R1++R2),yI b 0 (R1++R2)))
 | [],R1,hg,hl,hf,htop,hb=>by
   rw [List.append_nil] at*
   rw [zXr];unfold zDm;rw [wY hi,hLi,Option.bind_some,hf]
   by_cases h0:t= []
   ·subst h0
    rw [if_neg (fun h=>h.elim (fun h=>h rfl) (fun h=>h.1 rfl)),List.append_nil,decide_eq_false (by omega:¬((enc b R1).length:Int)<((enc b R1).length:Int)),cond_false]
   ·have hpos:0<t.length:=List.length_pos_iff.2 h0
    have htl:=ht.len
    rw [if_pos (.inl h0),decide_eq_true (by rw [List.length_append];omega:((enc b R1).length:Int)<((enc b R1++t).length:Int)),cond_true,Option.bind_some,hf,decide_eq_true (by omega:(0:Int)≤((enc b R1).length:Int)),decide_eq_true (by rw [List.length_append];omega:((enc b R1).length:Int)≤((enc b R1++t).length:Int)),decide_eq_true (by omega:((enc b R1++t).length:Int)≤((enc b R1++t).length:Int)),zJb,Int.toNat_natCast,List.drop_left]
    simp only [Bool.and_self,cond_true]
    rw [xS4 (by omega) ht.byte (ht.bad.resolve_left h0),Option.bind_some,show ((0:Int)==0)=true from rfl,cond_true,yT (by simp;omega),cond_true]
 |d::r,R1,hg,hl,hf,htop,hb=>by
  have hd:=hg.ok d (by simp)
  have hlow:=hg.low
  have hge:=hg.top
  have htl:=ht.len
  have hR:R1++d::r=(R1++ [d])++r:=by simp
  have hlen:(R1++d::r).length=R1.length+r.length+1:=by simp;omega
  have he:enc b (R1++d::r)=enc b R1++(rb (b+R1.length) d++enc (b+R1.length+1) r):=by rw [yB7,enc]
  have he2:enc b (R1++ [d])=enc b R1++rb (b+R1.length) d:=by rw [yB7,enc,enc,List.append_nil]
  have hrb:=xH3 (i:=b+R1.length) (d:=d)
  have hdl:f.2.1.length=(enc b R1).length+((rb (b+R1.length) d).length+(enc (b+R1.length+1) r).length)+t.length:=by rw [hf,he];simp;omega
  have hbd:(enc b R1).length+((rb (b+R1.length) d).length+(enc (b+R1.length+1) r).length)≤9000:=by rw [he] at hl;simp at hl;omega
  have hdr:f.2.1.drop (enc b R1).length=rb (b+R1.length) d++(enc (b+R1.length+1) r++t):=by
   rw [hf,he,List.append_assoc,List.drop_left,List.append_assoc]
  rw [zXr];unfold zDm;rw [wY hi,hLi,Option.bind_some,decide_eq_true (by omega:((enc b R1).length:Int)<(f.2.1.length:Int)),cond_true,Option.bind_some,decide_eq_true (by omega:(0:Int)≤((enc b R1).length:Int)),decide_eq_true (by omega:((enc b R1).length:Int)≤(f.2.1.length:Int)),decide_eq_true (by omega:(f.2.1.length:Int)≤(f.2.1.length:Int)),zJb,Int.toNat_natCast,hdr]
  simp only [Bool.and_self,cond_true]
  rw [xUx (by omega) hb hd (by
   intro x hx
   rcases List.mem_append.1 hx with hx|hx
   ·refine yQ4 (R:=r) (i:=b+R1.length+1) ⟨fun y hy=>hg.ok y (by simp [hy]),by omega,by omega⟩ x hx
   ·exact ht.byte x hx) (by rw [List.length_append];omega)]
  simp only [Option.bind_some]
  have hlz:((((rb (b+R1.length) d).length:Nat):Int)==0)=false:=by rw [beq_eq_false_iff_ne];omega
  have ee:IntKind.wrap .i64 (((enc b R1).length:Int)+((rb (b+R1.length) d).length:Int))=((enc b (R1++ [d])).length:Int):=by
   rw [yQ (by omega) (by omega),he2,List.length_append];omega
  have eE:yI b 0 R1++ [((enc b (R1++ [d])).length:Int)]=yI b 0 (R1++ [d]):=by
   rw [yJw,yI,yI,he2,List.length_append,Nat.zero_add]
  have eR:vC b R1++ [(((b+R1.length:Nat):Int),d)]=vC b (R1++ [d]):=by rw [yXu];rfl
  have hr1:R1.length≤9000:=by
   have:=zK2 b R1
   omega
  have room1:yK (vC b (R1++ [d])).length 32=true:=yT (by rw [kZ];simp;omega)
  have room2:yK (yI b 0 (R1++ [d])).length 8=true:=yT (by rw [vN];simp;omega)
  have main:(bif (IntKind.wrap .u64 (((b+R1.length:Nat):Int)+1)==0) then (bif yK ((O++([((i:Int),(vC b (R1++ [d]),yI b 0 (R1++ [d])))]))).length 56 then some (.inr (O++([((i:Int),(vC b (R1++ [d]),yI b 0 (R1++ [d])))]))) else none) else kQ L (IntKind.wrap .u64 (((b+R1.length:Nat):Int)+1)) (n:Int) (i:Int) ((enc b (R1++ [d])).length:Int) O (i:Int) (vC b (R1++ [d])) (yI b 0 (R1++ [d])))=
   if t≠ []∨(d::r≠ []∧b+(R1++d::r).length=18446744073709551616) then some (.inr (O++ [((i:Int),vC b (R1++d::r),yI b 0 (R1++d::r))]))
   else some (.inl (L,(nxt nx b (R1++d::r):Int),(n:Int),(i:Int),O,(i:Int),vC b (R1++d::r),yI b 0 (R1++d::r))):=by
   by_cases hmax:b+R1.length+1=18446744073709551616
   ·have e64:IntKind.wrap .u64 (((b+R1.length:Nat):Int)+1)=0:=by
     rw [show ((b+R1.length:Nat):Int)+1=18446744073709551616 by omega];decide
    have hr:r= []:=List.length_eq_zero_iff.1 (by omega)
    subst hr
    rw [e64,show ((0:Int)==0)=true from rfl,cond_true,yT (by simp;omega),cond_true,if_pos (.inr ⟨by simp,by omega⟩)]
   ·have e64:IntKind.wrap .u64 (((b+R1.length:Nat):Int)+1)=((b+R1.length+1:Nat):Int):=by
     rw [zBo (by omega) (by omega)];omega
    have hz:(((b+R1.length+1:Nat):Int)==0)=false:=by rw [beq_eq_false_iff_ne];omega
    rw [e64,hz,cond_false]
    have ih:=xIz (n:=n) ht hnx hO hi hLi r (R1++ [d]) (by rw [←hR];exact hg) (by rw [←hR];exact hl) (by rw [←hR];exact hf) (by rw [←hR];exact htop) (by simp;omega)
    rw [xJu] at ih
    rw [ih,←hR]
    by_cases h0:t= []
    ·by_cases hrn:r= []
     ·subst hrn
      rw [if_neg (fun h=>h.elim (fun h=>h h0) (fun h=>h.1 rfl)),if_neg (fun h=>h.elim (fun h=>h h0) (fun h=>by have:=h.2;simp at this;omega))]
     ·simp only [h0,hrn,ne_eq,not_true_eq_false,not_false_eq_true,false_or,true_and,reduceCtorEq]
    ·rw [if_pos (.inl h0),if_pos (.inl h0)]
  rw [hlz,cond_false]
  simp only [ee,eE,eR,room1,room2,cond_true]
  have hsame:∀X Y:Option ((FL×Int×Int×Int×List (Int×List (Int×List Int)×List Int)×Int×List (Int×List Int)×List Int)⊕List (Int×List (Int×List Int)×List Int)),(bif ((nxt nx b R1:Int) !=0) then (bif (((b+R1.length:Nat):Int) !=(nxt nx b R1:Int)) then X else Y) else Y)=Y:=by
   intro X Y
   by_cases hz:nxt nx b R1=0
   ·rw [hz];rfl
   ·have e1:(((nxt nx b R1:Nat):Int) !=0)=true:=by simp;omega
    have e2:nxt nx b R1=b+R1.length:=by
     cases R1 with
     |nil=>
      rcases hnx with h|h
      ·exact absurd h hz
      ·show nx=_;simp [h]
     |cons _ _=>rfl
    have e3:(((b+R1.length:Nat):Int) !=((nxt nx b R1:Nat):Int))=false:=by rw [e2];simp
    rw [e1,e3];rfl
  rw [hsame]
  exact main
end Go.Proofs.YtlhifcknhgmidaaGreatDoor.gg
