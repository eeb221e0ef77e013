/- A part of our own proof. -/
import Derived.Test.YtlhifcknhgmidaaGreatDoorWE
open Go Go.GG Go.Proofs
set_option linter.unusedVariables false
namespace Go.Proofs.YtlhifcknhgmidaaGreatDoor.gg
theorem zNl (n b:Nat) (A:List Sg) (s:Sg):fl n b (A++ [s]) []=fl n b A []++ [(nm (n+A.length),(enc (b+cnt A) s.1,(s.2:Int)))]:=by
 rw [yH3,List.append_nil]
theorem xI3:∀(n b:Nat) (A B:List Sg),xO n b (A++B)=xO n b A++xO (n+A.length) (b+cnt A) B
 |n,b, [],B=>rfl
 |n,b,a::A,B=>by
  rw [List.cons_append,xO,xO,xI3 (n+1) _ A B,List.length_cons,cnt,List.cons_append,show n+1+A.length=n+(A.length+1) by omega,Nat.add_assoc b]
theorem xT0 (n b:Nat) (A B:List Sg) (s:Sg):(xO n b (A++s::B))[A.length]? =some (((n+A.length:Nat):Int),kU (b+cnt A) s.1,yI (b+cnt A) 0 s.1,s.1):=by
 rw [xI3,List.getElem?_append_right (by rw [zB7];omega),zB7,Nat.sub_self]
 rfl
theorem GR.at {n b:Nat} {A B:List Sg} {s:Sg} {G:List SG} (h:GR n b (A++s::B) G):∃f,G[A.length]? =some (((n+A.length:Nat):Int),f,yI (b+cnt A) 0 s.1,s.1)∧(s.1≠ []→f=((b+cnt A:Nat):Int)):=by
 rcases h with ⟨e,_⟩|⟨A0,s0,f,e,rfl,hf⟩
 ·simp at e
 ·rcases List.eq_nil_or_concat B with rfl|⟨B',z,rfl⟩
  ·obtain ⟨rfl,e2⟩:=List.append_inj' e rfl
   cases e2
   refine ⟨f, ?_,hf⟩
   rw [List.getElem?_append_right (by rw [zB7];omega),zB7,Nat.sub_self]
   rfl
  ·rw [List.concat_eq_append,←List.cons_append,←List.append_assoc] at e
   obtain ⟨rfl,e2⟩:=List.append_inj' e rfl
   refine ⟨kU (b+cnt A) s.1, ?_,fun hs=> ?_⟩
   ·rw [List.getElem?_append_left (by rw [zB7,List.length_append,List.length_cons];omega),xT0]
   ·cases hq:s.1 with
    |nil=>exact absurd hq hs
    |cons _ _=>rfl
structure Log (m:FL) (n b:Nat) (S:List Sg) (G:List SG):Prop where
 st:St m (fl n b S [])
 fine:yX n b S
 gr:GR n b S G
theorem Log.len {m:FL} {n b:Nat} {S:List Sg} {G:List SG} (h:Log m n b S G):S.length≤64:=by
 have:=h.st.len
 rwa [zFs] at this
theorem Log.glen {m:FL} {n b:Nat} {S:List Sg} {G:List SG} (h:Log m n b S G):G.length≤64:=by
 rw [h.gr.len];exact h.len
theorem Log.last {m:FL} {n b:Nat} {A:List Sg} {s:Sg} {G:List SG} (h:Log m n b (A++ [s]) G):∃f,G=xO n b A++ [(((n+A.length:Nat):Int),f,yI (b+cnt A) 0 s.1,s.1)]∧(s.1≠ []→f=((b+cnt A:Nat):Int)):=by
 rcases h.gr with ⟨e,_⟩|⟨A0,s0,f,e,rfl,hf⟩
 ·simp at e
 ·obtain ⟨rfl,e2⟩:=List.append_inj' e rfl
  cases e2
  exact ⟨f,rfl,hf⟩
theorem Log.parts {m:FL} {n b:Nat} {A:List Sg} {s:Sg} {G:List SG} (h:Log m n b (A++ [s]) G):yX n b A∧(1≤n+A.length∧n+A.length≤99999999)∧GOk (b+cnt A) s.1∧(enc (b+cnt A) s.1).length≤9000∧b+cnt A<18446744073709551616∧s.2≤(enc (b+cnt A) s.1).length∧1≤n∧1≤b:=by
 obtain ⟨h1,_,h3⟩:=yX.app h.fine (by simp)
 have hr:=h.fine.range
 rcases hr with hr|hr
 ·simp at hr
 ·have hm:=h.st.ok (nm (n+A.length),(enc (b+cnt A) s.1,(s.2:Int))) (by rw [zNl];simp)
  have h4:(s.2:Int)≤((enc (b+cnt A) s.1).length:Int):=hm.2.2.2
  exact ⟨h1,h3.1,h3.2.1,h3.2.2.1.1,h3.2.2.1.2,by omega,hr.1,hr.2.1⟩
theorem yX.change:∀ {n b:Nat} {A:List Sg} {s s':Sg},yX n b (A++ [s])→GOk (b+cnt A) s'.1→(enc (b+cnt A) s'.1).length≤9000→s'.2≤(enc (b+cnt A) s'.1).length→yX n b (A++ [s'])
 |n,b, [],s,s',h,h1,h2,h3=>⟨h.1,by simpa [cnt] using h1,⟨by simpa [cnt] using h2,h.2.2.1.2⟩,Nat.zero_le _,fun e=>absurd rfl e,trivial⟩
 |n,b,a::A,s,s',h,h1,h2,h3=>by
  rw [cnt,←Nat.add_assoc] at h1 h2 h3
  exact ⟨h.1,h.2.1,h.2.2.1,h.2.2.2.1,fun _=>h.2.2.2.2.1 (by simp),yX.change h.2.2.2.2.2 h1 h2 h3⟩
theorem yX.safe:∀ {n b p q:Nat} {A:List Sg} {R:List (List Int)},yX n b (A++ [(R,q)])→yX n b (A++ [(R,p)])
 |n,b,p,q, [],R,h=>⟨h.1,h.2.1,h.2.2.1,Nat.zero_le _,fun e=>absurd rfl e,trivial⟩
 |n,b,p,q,a::A,R,h=>⟨h.1,h.2.1,h.2.2.1,h.2.2.2.1,fun _=>h.2.2.2.2.1 (by simp),yX.safe h.2.2.2.2.2⟩
theorem yX.push:∀ {n b:Nat} {A:List Sg} {s s':Sg},yX n b (A++ [s])→4096<(enc (b+cnt A) s.1).length→s.2=(enc (b+cnt A) s.1).length→b+cnt A+s.1.length<18446744073709551616→n+A.length+1≤99999999→GOk (b+cnt A+s.1.length) s'.1→(enc (b+cnt A+s.1.length) s'.1).length≤9000→s'.2≤(enc (b+cnt A+s.1.length) s'.1).length→yX n b (A++ [s]++ [s'])
 |n,b, [],s,s',h,h1,h2,h3,h4,h5,h6,h7=>by
  simp only [cnt,Nat.add_zero,List.length_nil] at h1 h2 h3 h4 h5 h6 h7
  exact ⟨h.1,h.2.1,h.2.2.1,h.2.2.2.1,fun _=>⟨h1,h2,h3⟩,⟨by omega,by omega⟩,h5,⟨h6,h3⟩,Nat.zero_le _,fun e=>absurd rfl e,trivial⟩
 |n,b,a::A,s,s',h,h1,h2,h3,h4,h5,h6,h7=>by
  rw [cnt,←Nat.add_assoc] at h1 h2 h3 h5 h6 h7
  rw [List.length_cons] at h4
  exact ⟨h.1,h.2.1,h.2.2.1,h.2.2.2.1,fun _=>h.2.2.2.2.1 (by simp),yX.push h.2.2.2.2.2 h1 h2 h3 (by omega) h5 h6 h7⟩
theorem Log.rebase {m:FL} {n b:Nat} {S:List Sg} {G:List SG} (h:Log m n b S G) (hc:cnt S=0) {i:Nat} (h1:1≤i) (h2:i<18446744073709551616):Log m n i S G:=by
 rcases List.eq_nil_or_concat S with rfl|⟨A,s,rfl⟩
 ·refine ⟨h.st,trivial, ?_⟩
  rcases h.gr with ⟨_,e⟩|⟨A,s,f,e,_⟩
  ·exact .inl ⟨rfl,e⟩
  ·simp at e
 ·rw [List.concat_eq_append] at*
  have hA:A= []:=by
   cases A with
   |nil=>rfl
   |cons a A=>
    have:=(yX.app h.fine (by simp)).2.1 a (by simp)
    rw [List.cons_append,cnt] at hc
    have:=List.length_pos_iff.2 this
    omega
  subst hA
  have hs:s.1= []:=by
   rw [List.nil_append,cnt,cnt] at hc
   exact List.length_eq_zero_iff.1 (by omega)
  obtain ⟨s1,s2⟩:=s
  simp only at hs
  subst hs
  obtain ⟨f,e,hf⟩:=h.last
  obtain ⟨f1,f2,f3,f4,f5,f6⟩:=h.fine
  refine ⟨h.st,⟨f1,⟨fun d hd=>by simp at hd,h1,by simp;omega⟩,⟨f3.1,h2⟩,f4,fun e=>absurd rfl e,trivial⟩, ?_⟩
  exact .inr ⟨[],([],s2),f,rfl,e,fun e=>absurd rfl e⟩
def vY:List Sg→List (List Int)
 | []=> []
 |s::r=>s.1++vY r
theorem zMt:∀S,(vY S).length=cnt S
 | []=>rfl
 |s::r=>by rw [vY,List.length_append,zMt,cnt]
theorem yQ3:∀A B,vY (A++B)=vY A++vY B
 | [],B=>rfl
 |s::A,B=>by rw [List.cons_append,vY,vY,yQ3 A B,List.append_assoc]
theorem yX.rowOk:∀ {n b:Nat} {S:List Sg},yX n b S→∀d∈vY S,ROk d
 |n,b, [],_,d,hd=>by simp [vY] at hd
 |n,b,s::r,h,d,hd=>by
  rw [vY,List.mem_append] at hd
  rcases hd with hd|hd
  ·exact h.2.1.ok d hd
  ·exact yX.rowOk h.tail d hd
theorem xUs {m:FL} {n b:Nat} {S:List Sg} {G:List SG} (h:Log m n b S G) {i:Nat} (h1:b≤i) (h2:i<b+cnt S):kJ (true,G.map some) (i:Int)=some (nth (vY S) (i-b) [],true):=by
 have hl:=h.len
 have hgl:=h.glen
 have hr:=h.fine.range
 have hi:i<18446744073709551616:=by
  rcases hr with rfl|hr
  ·simp [cnt] at h2;omega
  ·omega
 have hrow:=h.fine.rowOk
 unfold kJ zQm
 rw [yCn G (by omega),h.gr.find,zTa i h.fine hi]
 cases e:zGo b S i with
 |none=>have:=zY4 e;omega
 |some k=>
  obtain ⟨A,s,B,rfl,rfl,q1,q2⟩:=yAo e
  obtain ⟨f,hf,hff⟩:=h.gr.at
  have hk:A.length<G.length:=by
   rw [h.gr.len,List.length_append,List.length_cons];omega
  have hs:s.1≠ []:=by
   intro e
   rw [e,List.length_nil] at q2;omega
  rw [List.getElem?_eq_getElem hk,Option.some.injEq] at hf
  simp only [Option.bind_some]
  rw [decide_eq_false (by omega:¬(A.length:Int)<0),wY (by rw [List.length_map];exact hk),List.getElem_map,hf,hff hs]
  simp only [cond_false,Option.bind_some]
  rw [zBo (by omega) (by omega),show (i:Int)-((b+cnt A:Nat):Int)=((i-(b+cnt A):Nat):Int) by omega,wY (by omega:i-(b+cnt A)<s.1.length)]
  simp only [Option.bind_some]
  have hmem:s.1[i-(b+cnt A)]'(by omega)∈vY (A++s::B):=by
   rw [yQ3,vY]
   simp
  have hlen:=(hrow _ hmem).len
  rw [zSu (by omega)]
  simp only [Option.bind_some,Option.some.injEq,Prod.mk.injEq,and_true]
  have hbl:=zMt (A++s::B)
  rw [yH5 (by omega)]
  have hA:=zMt A
  have e2:i-b=(vY A).length+(i-(b+cnt A)):=by omega
  have:∀(x:List (List Int)) (j:Nat) (hj:j<x.length),x=vY A++(s.1++vY B)→j=(vY A).length+(i-(b+cnt A))→x[j]=s.1[i-(b+cnt A)]'(by omega):=by
   rintro x j hj rfl rfl
   rw [List.getElem_append_right (by omega)]
   simp only [Nat.add_sub_cancel_left]
   rw [List.getElem_append_left (by omega)]
  rw [this (vY (A++s::B)) (i-b) (by omega) (by rw [yQ3,vY]) e2]
theorem yV6 {m:FL} {n b:Nat} {S:List Sg} {G:List SG} (h:Log m n b S G) {i:Nat} (hi:i<18446744073709551616) (h1:i<b∨b+cnt S≤i):kJ (true,G.map some) (i:Int)=some ([],false):=by
 have hl:=h.len
 have hgl:=h.glen
 unfold kJ zQm
 rw [yCn G (by omega),h.gr.find,zTa i h.fine hi,yUq h1]
 rfl
theorem yCa (k:Nat):Nat.beq (k+1) 0=false:=rfl
theorem zXb {α:Type} (l:List α) (x y:α):(l++ [x]).set l.length y=l++ [y]:=by simp
theorem yB0 {α:Type} (l:List α) (x:α):(l++ [x])[l.length]? =some x:=by simp
theorem yPd {a f:Int} {i:Nat} {R Y:List (List Int)} (h:R.length≤10000):jA (a,f,yI i 0 R,Y)=some ((enc i R).length:Int):=by
 unfold jA zK3
 simp only [vN]
 by_cases h0:R= []
 ·subst h0;rfl
 ·have hp:=List.length_pos_iff.2 h0
  have:((R.length:Int)==0)=false:=by rw [beq_eq_false_iff_ne];omega
  rw [this,show IntKind.wrap .i64 ((R.length:Int)-1)=((R.length-1:Nat):Int) by rw [yQ (by omega) (by omega)];omega]
  simp only [cond_false]
  rw [yYs (by rw [vN];omega) 0,yY5 hp]
  rfl
theorem xPq {m:FL}:zEd (m, [])=some (m, []):=rfl
theorem Log.synced {m m':FL} {n b:Nat} {A:List Sg} {s:Sg} {G:List SG} (h:Log m n b (A++ [s]) G) (hm:St m' (zWj (fl n b (A++ [s]) []) (nm (n+A.length))).1):Log m' n b (A++ [(s.1,(enc (b+cnt A) s.1).length)]) G∧(zWj (fl n b (A++ [s]) []) (nm (n+A.length)))=(fl n b (A++ [(s.1,(enc (b+cnt A) s.1).length)]) [],0):=by
 obtain ⟨p1,p2,p3,p4,p5,p6,_⟩:=h.parts
 have hst:=h.st
 rw [zNl] at hst
 have e:(zWj (fl n b (A++ [s]) []) (nm (n+A.length)))=(fl n b (A++ [(s.1,(enc (b+cnt A) s.1).length)]) [],0):=by
  unfold zWj
  rw [zNl,yDm hst.rel.srt]
  simp only
  rw [yYh hst.rel,zNl]
 refine ⟨⟨by rw [e] at hm;exact hm,yX.change h.fine p3 p4 (Nat.le_refl _), ?_⟩,e⟩
 obtain ⟨f,eg,hf⟩:=h.last
 exact .inr ⟨A,_,f,rfl,eg,hf⟩
theorem xRp {m:FL} {n b:Nat} {A:List Sg} {s:Sg} {G:List SG} (h:Log m n b (A++ [s]) G):∃m',zEd (m,G)=some (m',G)∧Log m' n b (A++ [(s.1,(enc (b+cnt A) s.1).length)]) G:=by
 obtain ⟨p1,p2,p3,p4,p5,p6,_⟩:=h.parts
 have hgl:=h.glen
 obtain ⟨f,eg,hf⟩:=h.last
 obtain ⟨m',e,hm⟩:=yIa h.st (nm (n+A.length))
 refine ⟨m', ?_,(h.synced hm).1⟩
 unfold zEd zT0 xW wR
 have gl:G.length=(xO n b A).length+1:=by rw [eg];simp
 have ga:G[(xO n b A).length]? =some (((n+A.length:Nat):Int),f,yI (b+cnt A) 0 s.1,s.1):=by rw [eg,yB0]
 have gs:G.set (xO n b A).length (((n+A.length:Nat):Int),f,yI (b+cnt A) 0 s.1,s.1)=G:=by rw [eg,zXb]
 simp only [Option.bind_some,Bool.not_true,Bool.not_false,cond_true]
 rw [Nat.ble_eq_true_of_le (by omega:G.length≤4611686018427387904),gl,yCa]
 simp only [Nat.add_sub_cancel,cond_true,cond_false,ga,Option.bind_some,gs]
 rw [zO8 (by omega),Option.bind_some,e]
 rfl
end Go.Proofs.YtlhifcknhgmidaaGreatDoor.gg
