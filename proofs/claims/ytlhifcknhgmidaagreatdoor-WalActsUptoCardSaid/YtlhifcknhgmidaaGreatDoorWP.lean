/- A part of our own proof. -/
import Derived.Test.YtlhifcknhgmidaaGreatDoorWO
open Go Go.GG Go.Proofs
set_option linter.unusedVariables false
namespace Go.Proofs.YtlhifcknhgmidaaGreatDoor.gg
def zRr:Nat→Nat→List Sg→Nat→Nat×Nat×List Sg
 |n,b, [],_=>(n,b, [])
 |n,b, [s],_=>(n,b, [s])
 |n,b,s::a::r,i=>if b+s.1.length≤i+1 then zRr (n+1) (b+s.1.length) (a::r) i else (n,b,s::a::r)
theorem GR.tail {n b:Nat} {s a:Sg} {r:List Sg} {G:List SG} (h:GR n b (s::a::r) G):∃G',G=((n:Int),kU b s.1,yI b 0 s.1,s.1)::G'∧GR (n+1) (b+s.1.length) (a::r) G':=by
 rcases h with ⟨e,_⟩|⟨A,z,f,e,rfl,hf⟩
 ·cases e
 ·cases A with
  |nil=>simp at e
  |cons s' A=>
   rw [List.cons_append] at e
   injection e with e1 e2
   subst e1
   refine ⟨_,rfl, .inr ⟨A,z,f,e2, ?_, ?_⟩⟩
   ·rw [List.length_cons,cnt,show n+(A.length+1)=n+1+A.length by omega,←Nat.add_assoc b]
    rfl
   ·intro hz
    rw [hf hz,cnt,←Nat.add_assoc b]
theorem xM1 (n b:Nat) (s a:Sg) (r:List Sg):fl n b (s::a::r) []=(nm n,(enc b s.1,(s.2:Int)))::fl (n+1) (b+s.1.length) (a::r) []:=by
 rw [fl]
 show (nm n,(enc b s.1++ [],(s.2:Int)))::_=_
 rw [List.append_nil]
theorem xFg {m:FL} {n b:Nat} {s a:Sg} {r:List Sg} (h:St m (fl n b (s::a::r) [])):yCk (fl n b (s::a::r) []) (nm n)=(fl (n+1) (b+s.1.length) (a::r) [],0):=by
 have hs:=h.rel.srt
 rw [xM1] at hs ⊢
 unfold yCk
 rw [xNi hs]
 simp only
 rw [xE6 hs]
theorem xAa {i:Nat} (hi:i<18446744073709551616):∀(S:List Sg) (n b:Nat) (m:FL) (G:List SG),Log m n b S G→∃m' G',zDu (i:Int) () () G m=some ((),(),G',m')∧Log m' (zRr n b S i).1 (zRr n b S i).2.1 (zRr n b S i).2.2 G'
 | [],n,b,m,G,h=>by
   have hG:G= []:=List.length_eq_zero_iff.1 (by rw [h.gr.len];rfl)
   subst hG
   refine ⟨m, [], ?_,h⟩
   rw [zFq];unfold jR;rfl
 | [s],n,b,m,G,h=>by
   have hG:G.length=1:=h.gr.len
   refine ⟨m,G, ?_,h⟩
   rw [zFq];unfold jR;rw [hG];rfl
 |s::a::r,n,b,m,G,h=>by
  obtain ⟨h1,h2,h3,h4,h5,h6⟩:=h.fine
  have h5:=h5 (by simp)
  have hs:s.1≠ []:=by
   intro e
   rw [e] at h5
   simp [enc] at h5
  have hp:=List.length_pos_iff.2 hs
  have hl:=h.len
  have hgl:=h.gr.len
  obtain ⟨G',rfl,hG'⟩:=h.gr.tail
  have hlow:=h2.low
  have ef:kU b s.1=(b:Int):=by
   cases hq:s.1 with
   |nil=>exact absurd hq hs
   |cons _ _=>rfl
  have el:vK ((n:Int),kU b s.1,yI b 0 s.1,s.1)=some ((b+s.1.length-1:Nat):Int):=by
   unfold vK zB9
   simp only [vN,ef]
   rw [yY9 h2.top (by omega)]
  have e0:((s.1.length:Int)==0)=false:=by rw [beq_eq_false_iff_ne];omega
  have hcut:∀g:SG,cut (g::G') 1 (((g::G').length:Nat):Int)=G':=by
   intro g
   unfold cut
   rw [Int.toNat_natCast,List.take_length]
   rfl
  rw [List.length_cons,List.length_cons] at hl
  rw [List.length_cons,List.length_cons,List.length_cons] at hgl
  have hg1:∀g:SG,((g::G').length:Int)=(G'.length:Int)+1:=by intro g;simp
  rw [zRr]
  by_cases hc:b+s.1.length≤i+1
  ·rw [if_pos hc]
   obtain ⟨m1,e1,hm1⟩:=xFs h.st (nm n)
   rw [xFg h.st] at e1 hm1
   obtain ⟨m2,G2,e2,hL⟩:=xAa hi (a::r) (n+1) (b+s.1.length) m1 G' ⟨hm1,h6,hG'⟩
   refine ⟨m2,G2, ?_,hL⟩
   rw [zFq];unfold jR
   simp only [hg1,List.set_cons_zero,List.getElem?_cons_zero]
   rw [decide_eq_true (by omega:(G'.length:Int)+1>1),cond_true,show decide ((0:Int)≤0)=true from rfl,decide_eq_true (by omega:(0:Int)<(G'.length:Int)+1),Bool.and_self,cond_true,Option.bind_some]
   simp only [vN]
   rw [e0,cond_false,Option.bind_some,el,Option.bind_some,decide_eq_true (by omega:((b+s.1.length-1:Nat):Int)≤(i:Int)),cond_true,Option.bind_some,zO8 (by omega),Option.bind_some,e1,Option.bind_some,decide_eq_true (by omega:(1:Int)≤(G'.length:Int)+1),decide_eq_true (by omega:(G'.length:Int)+1≤(G'.length:Int)+1),Bool.and_self,Bool.and_self,cond_true]
   have:=hcut ((n:Int),kU b s.1,yI b 0 s.1,s.1)
   rw [hg1] at this
   rw [this]
   exact e2
  ·rw [if_neg hc]
   refine ⟨m,_, ?_,h⟩
   rw [zFq];unfold jR
   simp only [hg1,List.set_cons_zero,List.getElem?_cons_zero]
   rw [decide_eq_true (by omega:(G'.length:Int)+1>1),cond_true,show decide ((0:Int)≤0)=true from rfl,decide_eq_true (by omega:(0:Int)<(G'.length:Int)+1),Bool.and_self,cond_true,Option.bind_some]
   simp only [vN]
   rw [e0,cond_false,Option.bind_some,el,Option.bind_some,decide_eq_false (by omega:¬((b+s.1.length-1:Nat):Int)≤(i:Int)),cond_false]
   rfl
theorem xQ6 {m:FL} {n b:Nat} {S:List Sg} {G:List SG} (h:Log m n b S G) {i:Nat} (h1:b≤i) (h2:i<b+cnt S):∃m' G',zAh (m,G) (i:Int)=some (0,(m',G'))∧Log m' (zRr n b S i).1 (zRr n b S i).2.1 (zRr n b S i).2.2 G':=by
 have hgl:=h.glen
 have hr:=h.fine.range
 have hi:i<18446744073709551616:=by
  rcases hr with rfl|hr
  ·simp [cnt] at h2;omega
  ·omega
 obtain ⟨m',G',e,hL⟩:=xAa hi S n b m G h
 refine ⟨m',G', ?_,hL⟩
 unfold zAh zHv xW wR
 simp only [Option.bind_some,Bool.not_true,Bool.not_false,cond_false]
 rw [yCn G (by omega),h.gr.find,zTa i h.fine hi]
 cases ep:zGo b S i with
 |none=>have:=zY4 ep;omega
 |some k=>
  simp only [Option.bind_some]
  rw [decide_eq_false (by omega:¬(k:Int)<0),cond_false,e]
  rfl
theorem xOx {m:FL} {n b:Nat} {S:List Sg} {G:List SG} (h:Log m n b S G) {i:Nat} (hi:i<18446744073709551616) (h1:i<b∨b+cnt S≤i):zAh (m,G) (i:Int)=some (4,(m,G)):=by
 have hgl:=h.glen
 unfold zAh zHv xW wR
 simp only [Option.bind_some,Bool.not_true,Bool.not_false,cond_false]
 rw [yCn G (by omega),h.gr.find,zTa i h.fine hi,yUq h1]
 rfl
theorem xBk {n b i:Nat} {S:List Sg} (hF:yX n b S) (hl:S.length≤64):∀(B A:List Sg) (m:FL),S=A++B→St m (fl (n+A.length) (b+cnt A) B [])→
 zCm (fl n b S []) (i:Int) (fl (n+A.length) (b+cnt A) B []) (A.length:Int) (wB 0 b S)=some (fl (zRr (n+A.length) (b+cnt A) B i).1 (zRr (n+A.length) (b+cnt A) B i).2.1 (zRr (n+A.length) (b+cnt A) B i).2.2 [])
 | [],A,m,e,h=>by
   rw [List.append_nil] at e
   rw [zQc];unfold zBm;rw [vO,decide_eq_false,cond_false]
   ·rfl
   ·by_cases h0:S.length=0
    ·rw [h0,show IntKind.wrap .i64 (((0:Nat):Int)-1)= -1 from rfl];omega
    ·rw [yQ (by omega) (by omega),←e];omega
 | [s],A,m,e,h=>by
   have hlen:S.length=A.length+1:=by rw [e];simp
   rw [zQc];unfold zBm;rw [vO,yQ (by omega) (by omega),decide_eq_false (by omega:¬(A.length:Int)<(S.length:Int)-1),cond_false]
   rfl
 |s::a::r,A,m,e,h=>by
  have hlen:S.length=A.length+(r.length+2):=by rw [e];simp
  obtain ⟨_,_,hFs⟩:=yX.app (A:=A) (B:=s::a::r) (by rw [←e];exact hF) (by simp)
  obtain ⟨h1,h2,h3,h4,h5,h6⟩:=hFs
  have h5:=h5 (by simp)
  have hs:s.1≠ []:=by
   intro e
   rw [e] at h5
   simp [enc] at h5
  have hp:=List.length_pos_iff.2 hs
  have hrl:=zK2 (b+cnt A) s.1
  have hg:(wB 0 b S)[A.length]? =some ((A.length:Int),vC (b+cnt A) s.1,yI (b+cnt A) 0 s.1):=by rw [e];exact zL0
  obtain ⟨x,hx1,hx2⟩:=yVw n b A (a::r) s []
  rw [←e] at hx1
  have hw:IntKind.wrap .i64 ((s.1.length:Int)-1)=((s.1.length-1:Nat):Int):=by rw [yQ (by omega) (by omega)];omega
  have hrec:(vC (b+cnt A) s.1)[s.1.length-1]? =some (((b+cnt A+(s.1.length-1):Nat):Int),s.1[s.1.length-1]'(by omega)):=by
   rw [List.getElem?_eq_getElem (by rw [kZ];omega),zW9 _ _ _ (by omega)]
  rw [zRr,zQc];unfold zBm;rw [vO,yQ (n:=(S.length:Int)-1) (by omega) (by omega),decide_eq_true (by omega:(A.length:Int)<(S.length:Int)-1),cond_true,decide_eq_true (by omega:(0:Int)≤(A.length:Int)),decide_eq_true (by omega:(A.length:Int)<(S.length:Int)),Bool.and_self,cond_true,Int.toNat_natCast,hg,Option.bind_some,kZ,decide_eq_true (by omega:(s.1.length:Int)>0)]
  simp only [cond_true,Option.bind_some,kZ]
  rw [hw,yMu,hrec]
  simp only [Option.bind_some]
  by_cases hc:b+cnt A+s.1.length≤i+1
  ·rw [if_pos hc,decide_eq_false (by omega:¬((b+cnt A+(s.1.length-1):Nat):Int)>(i:Int)),cond_false,hx1,Option.bind_some,hx2,xBv h,Option.bind_some,xFg h,yW (by omega)]
   have hst:∃m',St m' (fl (n+A.length+1) (b+cnt A+s.1.length) (a::r) []):=by
    have ho:=h.out (nm (n+A.length))
    have hsr:=h.rel.srt
    rw [xM1] at ho hsr
    rw [xE6 hsr] at ho
    exact ⟨_,ho⟩
   obtain ⟨m',hm'⟩:=hst
   have hcl:=yY2 A s
   have ih:=xBk (i:=i) hF hl (a::r) (A++ [s]) m' (by rw [e];simp) (by rw [List.length_append,List.length_singleton,hcl,←Nat.add_assoc,←Nat.add_assoc];exact hm')
   rw [List.length_append,List.length_singleton,hcl,←Nat.add_assoc,←Nat.add_assoc] at ih
   exact ih
  ·rw [if_neg hc,decide_eq_true (by omega:((b+cnt A+(s.1.length-1):Nat):Int)>(i:Int)),cond_true]
theorem xSt {m:FL} {n b:Nat} {S:List Sg} {G:List SG} (h:Log m n b S G) {i:Nat} (h1:b≤i) (h2:i<b+cnt S):zCa (fl n b S []) (i:Int)=some (fl (zRr n b S i).1 (zRr n b S i).2.1 (zRr n b S i).2.2 [],0):=by
 have hl:=h.len
 have hloop:=xBk (i:=i) h.fine hl S [] m rfl h.st
 have hloop:zCm (fl n b S []) (i:Int) (fl n b S []) 0 (wB 0 b S)=some (fl (zRr n b S i).1 (zRr n b S i).2.1 (zRr n b S i).2.2 []):=hloop
 have hp:∃k j,zBu (wB 0 b S) (i:Int)=some (((k:Nat):Int),j):=by
  cases ep:zGo b S i with
  |none=>have:=zY4 ep;omega
  |some k=>
   obtain ⟨A,s,B,rfl,_,e2,e3⟩:=yAo ep
   have hwh:=xIc h.fine hl e2 e3 A [] rfl
   have hwh:jV (wB 0 b (A++s::B)) (i:Int) 0=_:=hwh
   refine ⟨A.length,((i-(b+cnt A):Nat):Int), ?_⟩
   unfold zBu zGu
   rw [hwh];rfl
 obtain ⟨k,j,ew⟩:=hp
 unfold zCa zKx
 rw [yGy h.fine hl,Option.bind_some,ew,Option.bind_some,decide_eq_false (by omega:¬(k:Int)<0),cond_false,hloop]
 rfl
theorem xQi {n b:Nat} {S:List Sg} (h:yX n b S) (hl:S.length≤64) {i:Nat} (hi:i<b∨b+cnt S≤i):zCa (fl n b S []) (i:Int)=some (fl n b S [],4):=by
 have hwh:=xC2 h hl hi S [] rfl
 have hwh:jV (wB 0 b S) (i:Int) 0=_:=hwh
 unfold zCa zKx zBu zGu
 rw [yGy h hl,Option.bind_some,hwh]
 rfl
end Go.Proofs.YtlhifcknhgmidaaGreatDoor.gg
