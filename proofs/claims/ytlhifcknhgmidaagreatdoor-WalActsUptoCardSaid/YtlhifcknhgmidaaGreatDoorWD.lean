/- A part of our own proof. -/
import Derived.Test.YtlhifcknhgmidaaGreatDoorWC
open Go Go.GG Go.Proofs
set_option linter.unusedVariables false
namespace Go.Proofs.YtlhifcknhgmidaaGreatDoor.gg
theorem xVh {n:Nat} (h:n<100000000):yQz (n:Int)=some (Lib.itoa (n:Int)):=xR0 (by omega) (by omega)
theorem xPp:∀k:Nat,Lib.repeatL [48] k=List.replicate k 48
 |0=>rfl
 |k+1=>by
  show [48]++Lib.repeatL [48] k=_
  rw [xPp k,List.replicate_succ];rfl
theorem zO8 {n:Nat} (h:n<100000000):zH7 (n:Int)=some (nm n):=by
 have h2:=xT7 h
 unfold zH7 yG9
 rw [xVh h]
 simp only [Option.bind_some]
 generalize Lib.itoa (n:Int)=s at h2
 obtain ⟨h3,h4⟩:=h2
 have e1:IntKind.wrap .i64 (8-(s.length:Int))=((8-s.length:Nat):Int):=by rw [yQ (by omega) (by omega)];omega
 have e2:zDo 0 ((8-s.length:Nat):Int)=((8-s.length:Nat):Int):=by unfold zDo;split<;>omega
 have e3:yH9 [48] ((8-s.length:Nat):Int)=some (List.replicate (8-s.length) 48):=by
  unfold yH9
  rw [decide_eq_true (by omega:(0:Int)≤((8-s.length:Nat):Int)),decide_eq_true (by omega:((8-s.length:Nat):Int)≤1000),Int.toNat_natCast,xPp]
  rfl
 rw [e1,e2,e3]
 simp only [Option.bind_some]
 have hd:Nat.ble (([119,97,108,45]:List UInt8).length+(List.replicate (8-s.length) (48:UInt8)).length) 9223372036854775807=true:=Nat.ble_eq_true_of_le (by simp only [List.length_cons,List.length_nil,List.length_replicate];omega)
 have hd2:Nat.ble ((([119,97,108,45]:List UInt8)++List.replicate (8-s.length) (48:UInt8)).length+s.length) 9223372036854775807=true:=Nat.ble_eq_true_of_le (by simp only [List.length_append,List.length_cons,List.length_nil,List.length_replicate];omega)
 rw [hd,hd2]
 simp only [cond_true]
 rw [List.append_assoc,h4]
 rfl
theorem xT1 (n:Nat):zF7 (nm n) [119,97,108,45]=some (dig 8 n,true):=by
 have hl:=yTk n
 have hp:jB (nm n) [119,97,108,45]=some true:=by
  unfold jB kE
  rw [decide_eq_true (by rw [hl];decide:((nm n).length:Int)≥(([119,97,108,45]:List UInt8).length:Int))]
  rfl
 unfold zF7 zJ3 kM kA
 rw [hp]
 simp only [Option.bind_some,Bool.not_true,cond_false]
 rw [decide_eq_true (by rw [hl];decide:(([119,97,108,45]:List UInt8).length:Int)≤((nm n).length:Int)),decide_eq_true (by omega:((nm n).length:Int)≤((nm n).length:Int))]
 have e:cut (nm n) (([119,97,108,45]:List UInt8).length:Int) ((nm n).length:Int)=dig 8 n:=by
  unfold cut
  rw [Int.toNat_natCast,Int.toNat_natCast,List.take_length]
  rfl
 rw [e]
 rfl
theorem xE0 {n:Nat} (h1:1≤n) (h:n<100000000):zRl (nm n)=some ((n:Int),true):=by
 have hl:=zUv 8 n
 unfold zRl yA1
 rw [xT1]
 simp only [Option.bind_some]
 have ha:yVs (dig 8 n)=some ((n:Int),()):=by
  unfold yVs
  rw [hl,show decide (8≤18)=true from rfl,xSh (k:=7) h]
  rfl
 have ht:yGu (dig 8 n) [48,49,50,51,52,53,54,55,56,57]=some []:=by
  unfold yGu
  rw [hl,show ([48,49,50,51,52,53,54,55,56,57]:List UInt8)=yQq from rfl,xQ2]
  rfl
 rw [ha]
 simp only [Option.bind_some,cond_true]
 rw [hl,ht,decide_eq_true (by omega:(n:Int)>0)]
 rfl
theorem xPz {i:Nat} {d t:List Int} (hi:1≤i) (hi2:i<18446744073709551616) (h:ROk d) (ht:∀x∈t,yD x) (hl:t.length≤90000000):zMm (rb i d++t)=some (((i:Int),d),((rb i d).length:Int),true):=by
 have hrl:=zZg hi2 h
 have hpb:=yCl (i:=i) h
 have hpl:=zIj hi2 h
 have hdl:=h.len
 unfold zMm zTk
 rw [xMm (by rw [List.length_append];omega) (by
  intro x hx
  rcases List.mem_append.1 hx with hx|hx
  ·exact xCg h x hx
  ·exact ht x hx),xM5 hi2 h]
 have e0:((0:Int) !=0)=false:=by decide
 have e1:((1:Int) !=1)=false:=by decide
 simp only [Option.bind_some,e0,e1,cond_false]
 rw [xSc _ (by omega)]
 have i0:=yP8 (yL i++d) (by omega) hpb
 simp only [Option.bind_some]
 rw [xLl i0]
 have hg:vJ 0 0 (yL i++d)=some (i,(yL i).length):=zEa hi2 d
 have r0:rU (yL i++d,0,0)=((i:Int),rto (yL i++d,0,0) (yL i).length):=by unfold rU;rw [if_pos rfl,xFn,hg]
 rw [r0]
 simp only [zPy,zM4,zNh,zK4,Option.bind_some,rto,e0,cond_false]
 have v0:((i:Int)==0)=false:=by rw [beq_eq_false_iff_ne];omega
 have e2:IntKind.wrap .i64 (((yL i++d).length:Int)-(0+((yL i).length:Int)))=(d.length:Int):=by
  rw [List.length_append] at hpl ⊢
  rw [yQ (by omega) (by omega)];omega
 have e3:IntKind.wrap .i64 (((yL i++d).length:Int)-(d.length:Int))=((yL i).length:Int):=by
  rw [List.length_append] at hpl ⊢
  rw [yQ (by omega) (by omega)];omega
 simp only [v0,cond_false,e2,e3]
 rw [decide_eq_false (by omega:¬(d.length:Int)>4096),decide_eq_true (by omega:(0:Int)≤((yL i).length:Int)),decide_eq_true (by rw [List.length_append];omega:((yL i).length:Int)≤((yL i++d).length:Int)),decide_eq_true (by omega:((yL i++d).length:Int)≤((yL i++d).length:Int)),zJb,Int.toNat_natCast,List.drop_left]
 rfl
theorem xNc {b:List Int} (hl:b.length≤100000000) (hb:∀x∈b,yD x) (h:Bad b):zMm b=some ((0, []),0,false):=by
 unfold zMm zTk
 rw [xMm hl hb]
 have e:((zDl b).2.2.2 !=0)=true:=by rw [bne_iff_ne];exact h
 simp only [Option.bind_some,e,cond_true]
def kU (b:Nat) (R:List (List Int)):Int:=match R with| []=>0|_::_=>(b:Int)
def nxt (nx b:Nat) (R:List (List Int)):Nat:=match R with| []=>nx|_::_=>b+R.length
def xO:Nat→Nat→List Sg→List SG
 |_,_, []=> []
 |n,b,s::r=>((n:Int),kU b s.1,yI b 0 s.1,s.1)::xO (n+1) (b+s.1.length) r
theorem zB7:∀n b S,(xO n b S).length=S.length
 |_,_, []=>rfl
 |n,b,s::r=>by rw [xO,List.length_cons,zB7,List.length_cons]
theorem zSw:∀(n b:Nat) (A:List Sg) (s:Sg),xO n b (A++ [s])=xO n b A++ [(((n+A.length:Nat):Int),kU (b+cnt A) s.1,yI (b+cnt A) 0 s.1,s.1)]
 |n,b, [],s=>rfl
 |n,b,a::A,s=>by
  rw [List.cons_append,xO,xO,zSw (n+1) _ A s,List.length_cons,cnt,List.cons_append,show n+1+A.length=n+(A.length+1) by omega,Nat.add_assoc b]
structure yE8 (t:List Int):Prop where
 bad:t= []∨Bad t
 byte:∀x∈t,yD x
 len:t.length≤70000
theorem yPm:yE8 []:=⟨.inl rfl,by simp,by simp⟩
theorem xA8 (R:List (List Int)) (d:List Int):∃a r,R++ [d]=a::r:=by cases R<;>simp
theorem xOw (b:Nat) (R:List (List Int)) (d:List Int):kU b (R++ [d])=(b:Int):=by
 obtain ⟨a,r,e⟩:=xA8 R d
 rw [e];rfl
theorem xJu (nx b:Nat) (R:List (List Int)) (d:List Int):nxt nx b (R++ [d])=b+R.length+1:=by
 have h:(R++ [d]).length=R.length+1:=by simp
 obtain ⟨a,r,e⟩:=xA8 R d
 rw [e] at h ⊢
 show b+(a::r).length=_
 omega
theorem zK2:∀(i:Nat) (Q:List (List Int)),Q.length≤(enc i Q).length
 |i, []=>by simp
 |i,a::q=>by
  have h1:=zK2 (i+1) q
  have h2:=xH3 (i:=i) (d:=a)
  rw [enc,List.length_append,List.length_cons];omega
theorem xM4 {b nx n:Nat} {t:List Int} {L:FL} {len idx:Int} {f:FI} {G:List SG} (ht:yE8 t) (hnx:nx=0∨nx=b) (hG:G.length≤100):
 ∀(R2 R1:List (List Int)),GOk b (R1++R2)→(enc b (R1++R2)).length≤9000→f.2.1=enc b (R1++R2)++t→(t≠ []→b+(R1++R2).length<18446744073709551616)→b+R1.length<18446744073709551616→
 zKc true (nxt nx b R1:Int) ((enc b R1).length:Int) L len idx f ((n:Int),kU b R1) (yI b 0 R1) R1 G=
  if R2≠ []∧b+(R1++R2).length=18446744073709551616 then some (.inr (decide (t= []),G++ [((n:Int),kU b (R1++R2),yI b 0 (R1++R2),R1++R2)]))
  else some (.inl (decide (t= []),(nxt nx b (R1++R2):Int),L,len,idx,((n:Int),kU b (R1++R2)),yI b 0 (R1++R2),R1++R2,G))
 | [],R1,hg,hl,hf,htop,hb=>by
   rw [List.append_nil] at*
   rw [if_neg (fun h=>h.1 rfl),yK0];unfold zOx;rw [hf]
   by_cases h0:t= []
   ·subst h0
    rw [List.append_nil,decide_eq_false (by omega:¬((enc b R1).length:Int)<((enc b R1).length:Int))]
    simp
   ·have hpos:0<t.length:=List.length_pos_iff.2 h0
    have htl:=ht.len
    rw [decide_eq_true (by rw [List.length_append];omega:((enc b R1).length:Int)<((enc b R1++t).length:Int)),decide_eq_true (by omega:(0:Int)≤((enc b R1).length:Int)),decide_eq_true (by rw [List.length_append];omega:((enc b R1).length:Int)≤((enc b R1++t).length:Int)),decide_eq_true (by omega:((enc b R1++t).length:Int)≤((enc b R1++t).length:Int)),zJb,Int.toNat_natCast,List.drop_left]
    simp only [Bool.and_self,cond_true]
    rw [xNc (by omega) ht.byte (ht.bad.resolve_left h0)]
    have e52:∀v0 v1 v2 v3 v5 v6 v7 v8 v9 v10 v11 v12 v13,zKg v0 v1 v2 v3 false v5 v6 v7 v8 v9 v10 v11 v12 v13=some (v0,v1,v2,v3,v5,v6,v7,true,v8,v9,v10,v13,v11,v12):=fun _ _ _ _ _ _ _ _ _ _ _ _ _=>rfl
    simp only [Option.bind_some,e52,cond_true]
    rw [decide_eq_false h0]
 |d::r,R1,hg,hl,hf,htop,hb=>by
  have hd:=hg.ok d (by simp)
  have hlow:=hg.low
  have hge:=hg.top
  have htl:=ht.len
  have hR:R1++d::r=(R1++ [d])++r:=by simp
  have hlen:(R1++d::r).length=R1.length+r.length+1:=by simp;omega
  have he:enc b (R1++d::r)=enc b R1++(rb (b+R1.length) d++enc (b+R1.length+1) r):=by rw [yB7,enc]
  have he2:enc b (R1++ [d])=enc b R1++rb (b+R1.length) d:=by rw [yB7,enc,enc,List.append_nil]
  have hrb:=xH3 (i:=b+R1.length) (d:=d)
  have hdl:f.2.1.length=(enc b R1).length+((rb (b+R1.length) d).length+(enc (b+R1.length+1) r).length)+t.length:=by rw [hf,he];simp;omega
  have hbd:(enc b R1).length+((rb (b+R1.length) d).length+(enc (b+R1.length+1) r).length)≤9000:=by rw [he] at hl;simp at hl;omega
  rw [yK0];unfold zOx;rw [decide_eq_true (by omega:((enc b R1).length:Int)<(f.2.1.length:Int)),decide_eq_true (by omega:(0:Int)≤((enc b R1).length:Int)),decide_eq_true (by omega:((enc b R1).length:Int)≤(f.2.1.length:Int)),decide_eq_true (by omega:(f.2.1.length:Int)≤(f.2.1.length:Int)),zJb,Int.toNat_natCast]
  have hdr:f.2.1.drop (enc b R1).length=rb (b+R1.length) d++(enc (b+R1.length+1) r++t):=by
   rw [hf,he,List.append_assoc,List.drop_left,List.append_assoc]
  simp only [Bool.and_self,cond_true]
  rw [hdr,xPz (by omega) hb hd (by
   intro x hx
   rcases List.mem_append.1 hx with hx|hx
   ·refine yQ4 (R:=r) (i:=b+R1.length+1) ⟨fun y hy=>hg.ok y (by simp [hy]),by omega,by omega⟩ x hx
   ·exact ht.byte x hx) (by rw [List.length_append];omega)]
  have e52:zKg true (nxt nx b R1:Int) ((enc b R1).length:Int) ((rb (b+R1.length) d).length:Int) true L len idx f ((n:Int),kU b R1) (((b+R1.length:Nat):Int),d) (yI b 0 R1) R1 G=some (true,(nxt nx b R1:Int),((enc b R1).length:Int),((rb (b+R1.length) d).length:Int),L,len,idx,false,f,((n:Int),kU b R1),(((b+R1.length:Nat):Int),d),G,yI b 0 R1,R1):=by
   unfold zKg zUm
   simp only [Bool.not_true,cond_false]
   by_cases hz:nxt nx b R1=0
   ·rw [hz];rfl
   ·have e1:(((nxt nx b R1:Nat):Int) !=0)=true:=by simp;omega
    have e2:nxt nx b R1=b+R1.length:=by
     cases R1 with
     |nil=>
      rcases hnx with h|h
      ·exact absurd h hz
      ·show nx=_;simp [h]
     |cons _ _=>rfl
    have e3:((((b+R1.length:Nat):Int),d).1 !=((nxt nx b R1:Nat):Int))=false:=by rw [e2];simp
    rw [e1,e3];rfl
  have e59:zQ7 true ((enc b R1).length:Int) ((rb (b+R1.length) d).length:Int) L len idx f ((n:Int),kU b R1) (((b+R1.length:Nat):Int),d) G (yI b 0 R1) R1=some (true,((enc b R1).length:Int),((rb (b+R1.length) d).length:Int),L,len,idx,f,((n:Int),kU b (R1++ [d])),(((b+R1.length:Nat):Int),d),G,yI b 0 R1,R1):=by
   unfold zQ7 zUi
   rw [vN,xOw]
   cases R1 with
   |nil=>rfl
   |cons a r1=>
    have:(((a::r1).length:Int)==0)=false:=by rw [beq_eq_false_iff_ne,List.length_cons];omega
    rw [this];rfl
  simp only [Option.bind_some]
  rw [e52]
  simp only [Option.bind_some,cond_false]
  rw [e59]
  simp only [Option.bind_some]
  have ee:IntKind.wrap .i64 (((enc b R1).length:Int)+((rb (b+R1.length) d).length:Int))=((enc b (R1++ [d])).length:Int):=by
   rw [yQ (by omega) (by omega),he2,List.length_append];omega
  have eE:yI b 0 R1++ [((enc b (R1++ [d])).length:Int)]=yI b 0 (R1++ [d]):=by
   rw [yJw,yI,yI,he2,List.length_append,Nat.zero_add]
  have hr1:R1.length≤9000:=by
   have:=zK2 b R1
   omega
  rw [ee,eE,yT (by rw [vN];simp;omega),yT (by simp;omega)]
  simp only [cond_true]
  by_cases hmax:b+R1.length+1=18446744073709551616
  ·have e64:IntKind.wrap .u64 (((b+R1.length:Nat):Int)+1)=0:=by
    rw [show ((b+R1.length:Nat):Int)+1=18446744073709551616 by omega];decide
   have hr:r= []:=by
    have:r.length=0:=by omega
    exact List.length_eq_zero_iff.1 this
   subst hr
   rw [e64]
   have t0:t= []:=by
    by_cases h0:t= []
    ·exact h0
    ·have:=htop h0
     omega
   subst t0
   simp only [BEq.rfl,cond_true]
   rw [yT (by simp;omega)]
   rw [if_pos ⟨by simp,by omega⟩]
   have hat:(((enc b (R1++ [d])).length:Int)==(f.2.1.length:Int))=true:=by
    rw [hdl,he2];simp [enc]
   rw [hat]
   simp
  ·have e64:IntKind.wrap .u64 (((b+R1.length:Nat):Int)+1)=((b+R1.length+1:Nat):Int):=by
    rw [zBo (by omega) (by omega)];omega
   rw [e64]
   have hz:(((b+R1.length+1:Nat):Int)==0)=false:=by rw [beq_eq_false_iff_ne];omega
   rw [hz]
   simp only [cond_false]
   have ih:=xM4 (n:=n) (L:=L) (len:=len) (idx:=idx) (f:=f) ht hnx hG r (R1++ [d]) (by rw [←hR];exact hg) (by rw [←hR];exact hl) (by rw [←hR];exact hf) (by rw [←hR];exact htop) (by simp;omega)
   rw [xJu] at ih
   rw [ih,←hR]
   by_cases hrn:r= []
   ·subst hrn
    rw [if_neg (fun h=>h.1 rfl),if_neg (fun h=>by have:=h.2;simp at this;omega)]
   ·simp only [ne_eq,hrn,not_false_eq_true,true_and,reduceCtorEq]
theorem xIe {t:List Int} {L:FL} (ht:yE8 t):∀(S2:List Sg) (n b nx i:Nat) (G:List SG),yX n b S2→i+S2.length=L.length→L.drop i=fl n b S2 t→(nx=0∨nx=b)→L.length≤64→G.length≤i→
 (∀g,G.getLast? =some g→g.1+1=(n:Int))→(S2= []→t= [])→(t≠ []→b+cnt S2<18446744073709551616)→
 zKf true (nx:Int) L (L.length:Int) (i:Int) G=some (.inl (decide (t= []),G++xO n b S2))∨zKf true (nx:Int) L (L.length:Int) (i:Int) G=some (.inr (decide (t= []),G++xO n b S2))
 | [],n,b,nx,i,G,hF,hi,hL,hnx,hl,hGi,hG,hS,htop=>by
   left
   rw [zZq];unfold zIn;rw [decide_eq_false (by simp at hi;omega:¬(i:Int)<(L.length:Int)),hS rfl]
   simp [xO]
 |s::r,n,b,nx,i,G,hF,hi,hL,hnx,hl,hGi,hG,hS,htop=>by
  obtain ⟨h1,h2,h3,h4,h5,h6⟩:=hF
  rw [List.length_cons] at hi
  have hiL:i<L.length:=by omega
  rw [List.drop_eq_getElem_cons hiL,fl] at hL
  injection hL with hL1 hL2
  have h2t:=h2.top
  have h2l:=h2.low
  rw [zZq];unfold zIn;rw [decide_eq_true (by omega:(i:Int)<(L.length:Int)),wY hiL]
  simp only [cond_true,Option.bind_some]
  have en:L[i].1=nm n:=by rw [hL1]
  rw [en,xE0 h1.1 (by omega)]
  simp only [Option.bind_some,Bool.not_true,cond_false]
  have e29:zQ6 true (nx:Int) (n:Int) L (L.length:Int) (i:Int) L[i] G=some (.inl (true,(nx:Int),(n:Int),L,(L.length:Int),(i:Int),L[i],G)):=by
   unfold zQ6 zUe
   simp only [Bool.not_true,cond_false]
   by_cases hg0:G= []
   ·subst hg0;rfl
   ·have hpos:0<G.length:=List.length_pos_iff.2 hg0
    have ew:IntKind.wrap .i64 ((G.length:Int)-1)=((G.length-1:Nat):Int):=by rw [yQ (by omega) (by omega)];omega
    rw [ew,decide_eq_true (by omega:(G.length:Int)>0),decide_eq_true (by omega:(0:Int)≤((G.length-1:Nat):Int)),decide_eq_true (by omega:((G.length-1:Nat):Int)<(G.length:Int)),Int.toNat_natCast,List.getElem?_eq_getElem (by omega:G.length-1<G.length)]
    simp only [cond_true,Bool.and_self,Option.bind_some,List.set_getElem_self]
    have hlast:=hG (G[G.length-1]'(by omega)) (by rw [List.getLast?_eq_getElem?,List.getElem?_eq_getElem (by omega:G.length-1<G.length)])
    rw [hlast,yQ (by omega) (by omega)]
    simp
  rw [e29]
  simp only [Option.bind_some,Sum.elim_inl]
  have hft:yE8 (tl r t):=by
   cases r with
   |nil=>exact ht
   |cons _ _=>exact yPm
  have hfd:(tl r t= [])↔(r= []→t= []):=by
   cases r with
   |nil=>simp [tl]
   |cons _ _=>simp [tl]
  have hbt:b+s.1.length<18446744073709551616∨r= []:=by
   by_cases hr:r= []
   ·exact .inr hr
   ·exact .inl (h5 hr).2.2
  have hmain:=xM4 (b:=b) (nx:=nx) (n:=n) (L:=L) (len:=(L.length:Int)) (idx:=(i:Int)) (f:=L[i]) (G:=G) hft hnx (by omega) s.1 [] (by rw [List.nil_append];exact h2) (by rw [List.nil_append];exact h3.1) (by rw [List.nil_append,hL1]) (by
   intro h
   rw [List.nil_append]
   cases r with
   |nil=>
    have:=htop h
    simp only [cnt] at this
    omega
   |cons _ _=>exact absurd rfl h) (by
   rw [List.length_nil];exact h3.2)
  have hmain:zKc true (nx:Int) 0 L (L.length:Int) (i:Int) L[i] ((n:Int),0) [] [] G=_:=hmain
  simp only [List.nil_append] at hmain
  rw [hmain]
  have hr1:s.1.length≤9000:=by
   have:=zK2 b s.1
   omega
  by_cases hc:s.1≠ []∧b+s.1.length=18446744073709551616
  ·rw [if_pos hc]
   have hr:r= []:=by
    by_cases hr:r= []
    ·exact hr
    ·have:=(h5 hr).2.2
     omega
   subst hr
   right
   rfl
  ·rw [if_neg hc]
   simp only [Option.bind_some,Sum.elim_inl]
   rw [yT (by simp;omega)]
   simp only [cond_true]
   have hset:∀x:SG,(G++ [x]).set (G.length+0) x=G++ [x]:=by intro x;simp
   rw [hset,yW (by omega)]
   have hgs:G++xO n b (s::r)=(G++ [((n:Int),kU b s.1,yI b 0 s.1,s.1)])++xO (n+1) (b+s.1.length) r:=by simp [xO]
   rw [hgs]
   by_cases hr:r= []
   ·subst hr
    left
    have e1:i+1=L.length:=by simpa using hi
    rw [zZq];unfold zIn;rw [decide_eq_false (by omega:¬((i+1:Nat):Int)<(L.length:Int))]
    simp only [cond_false,tl,xO,List.append_nil]
    first|rfl|congr
   ·have et:tl r t= []:=hfd.2 (fun h=>absurd h hr)
    rw [et,decide_eq_true rfl]
    refine xIe ht r (n+1) (b+s.1.length) (nxt nx b s.1) (i+1) _ h6 (by omega) hL2 ?_ hl (by simp;omega) (fun g hg=> ?_) (fun h=>absurd h hr) (fun h=> ?_)
    ·cases hs:s.1 with
     |nil=>rw [show nxt nx b []=nx from rfl];simpa using hnx
     |cons a q=>exact .inr rfl
    ·rw [List.getLast?_append] at hg
     simp only [List.getLast?_singleton,Option.some_or,Option.some.injEq] at hg
     rw [←hg]
     simp
    ·have:=htop h
     rw [cnt] at this
     omega
theorem xMh {n b:Nat} {S:List Sg} {t:List Int} (h:yX n b S) (hl:S.length≤64) (ht:yE8 t) (hS:S= []→t= []) (htop:t≠ []→b+cnt S<18446744073709551616):zX0 (fl n b S t)=some (xO n b S,decide (t= [])):=by
 unfold zX0 yGz
 have hL:=zFs n b S t
 have key:=xIe (L:=fl n b S t) ht S n b 0 0 [] h (by omega) (by simp) (.inl rfl) (by omega) (by simp) (by simp) hS htop
 simp only [List.nil_append,show ((0:Nat):Int)=0 from rfl] at key
 rcases key with e|e
 ·rw [e];rfl
 ·rw [e];rfl
end Go.Proofs.YtlhifcknhgmidaaGreatDoor.gg
