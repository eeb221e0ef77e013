/- A part of our own proof. -/
import Derived.Test.YtlhifcknhgmidaaGreatDoorWD
open Go Go.GG Go.Proofs
set_option linter.unusedVariables false
namespace Go.Proofs.YtlhifcknhgmidaaGreatDoor.gg
theorem yY9 {b k:Nat} (h:b+k≤18446744073709551616) (h1:1≤b+k):IntKind.wrap .u64 ((IntKind.wrap .u64 ((b:Int)+(IntKind.wrap .u64 (k:Int))))-1)=((b+k-1:Nat):Int):=by
 by_cases hk:k=18446744073709551616
 ·have hb:b=0:=by omega
  subst hb;subst hk
  decide
 ·rw [zBo (n:=(k:Int)) (by omega) (by omega)]
  by_cases he:b+k=18446744073709551616
  ·rw [show (b:Int)+(k:Int)=18446744073709551616 by omega,he]
   decide
  ·rw [zBo (n:=(b:Int)+(k:Int)) (by omega) (by omega),zBo (by omega) (by omega)]
   omega
def pf (idx:Int) (g:SG):Bool:=decide ((g.2.2.1.length:Int)>0)&&(decide (idx≥g.2.1)&&decide (idx≤IntKind.wrap .u64 ((IntKind.wrap .u64 (g.2.1+(IntKind.wrap .u64 (g.2.2.1.length:Int))))-1)))
def pe (g:SG):Bool:=((g.2.2.1.length:Int)==0)
theorem xQr (l:List SG) (f:Option SG→Option Bool) (p:SG→Bool) (hl:l.length≤1000000000000) (hf:∀x,f (some x)=some (p x)):yP (l.map some) f=some (match l.findIdx? p with|some i=>(i:Int)|none=> -1):=by
 have key0:=yPx l p (fun i=>xX (l.map some) f (l.length:Int) (i:Int)) (f:=fun i=>some (.inr (i:Int))) (a:=some (.inl ())) (fun i hi=>by
  try dsimp only
  rw [zA2];unfold xF;rw [decide_eq_true (by omega:(i:Int)<(l.length:Int)),wY (by rw [List.length_map];exact hi),List.getElem_map]
  simp only [cond_true,Option.bind_some,hf]
  rw [yW (by omega)]) (by
  try dsimp only
  rw [zA2];unfold xF;rw [decide_eq_false (by omega:¬(l.length:Int)<(l.length:Int))];rfl)
 unfold yP wE
 simp only [show ((0:Nat):Int)=0 from rfl] at key0
 rw [List.length_map,key0]
 cases l.findIdx? p<;>rfl
theorem xUq (l:List SG) (f:Option SG→Option Bool) (p:SG→Bool) (hl:l.length≤1000000000000) (hf:∀x,f (some x)=some (p x)):yZ (l.map some) f=some ((l.filter fun x=> !p x).map some):=by
 unfold yZ wA
 rw [xQr l f p hl hf]
 simp only [Option.bind_some]
 cases hi:l.findIdx? p with
 |none=>
  rw [List.findIdx?_eq_none_iff] at hi
  simp only [show ((-1:Int)== -1)=true from rfl,cond_true]
  rw [List.filter_eq_self.2 fun x hx=>by rw [hi x hx];rfl]
 |some i=>
  obtain ⟨hil,hpi,hpre⟩:=List.findIdx?_eq_some_iff_getElem.1 hi
  have e1:(((i:Nat):Int)== -1)=false:=by rw [beq_eq_false_iff_ne];omega
  simp only [e1,cond_false]
  have ht:l.take i=(l.take (i+1)).filter (fun x=> !p x):=by
   rw [zQg hil,List.filter_append,List.filter_eq_self.2]
   ·simp [hpi]
   ·intro x hx
    obtain ⟨j,hj,rfl⟩:=List.getElem_of_mem hx
    simp only [List.length_take] at hj
    rw [List.getElem_take]
    have:=hpre j (by omega)
    simpa using this
  obtain ⟨s',h1,h2,h3⟩:=xLi l p (fun i j s=>xN f i j (s.map some)) (fun i s=>some (i,s.map some)) (fun i j s hj hij hs=>by
   try dsimp only
   have hi2:i<s.length:=by omega
   rw [zAo];unfold xB;rw [List.length_map,decide_eq_true (by omega:(j:Int)<(s.length:Int)),decide_eq_true (by omega:(0:Int)≤(j:Int))]
   simp only [Bool.and_self,cond_true,Int.toNat_natCast,List.getElem?_map,List.getElem?_eq_getElem hj,Option.map_some,Option.bind_some,hf]
   rw [yW (by omega),yW (by omega),decide_eq_true (by omega:(0:Int)≤(i:Int)),decide_eq_true (by omega:(i:Int)<(s.length:Int)),List.getElem?_eq_getElem hi2]
   simp only [Bool.and_self,cond_true,Option.map_some,Option.bind_some,List.map_set]
   cases p s[j]<;>rfl) (fun i s hs=>by
   try dsimp only
   rw [zAo];unfold xB;rw [List.length_map,decide_eq_false (by omega:¬((l.length:Nat):Int)<(s.length:Int))];rfl) i (i+1) l (by omega) (by omega) rfl ht rfl
  try dsimp only at h2
  rw [yW (by omega),h2]
  have hfl:(l.filter fun x=> !p x).length≤l.length:=List.length_filter_le _ _
  generalize hm:(l.filter fun x=> !p x).length=m at*
  simp only [Option.bind_some,xS6,Int.toNat_natCast,List.length_replicate,Bool.true_and,List.length_map]
  rw [decide_eq_true (by omega:(0:Int)≤(m:Int)),decide_eq_true (by omega:(m:Int)≤(s'.length:Int)),decide_eq_true (Nat.le_refl _),decide_eq_true (by omega:m+(s'.length-m)≤s'.length)]
  simp only [Bool.and_self,cond_true]
  have hsp:∀ys:List (Option SG),ys.length=s'.length-m→(zCg (s'.map some) m ys).take m=(s'.map some).take m∧(zCg (s'.map some) m ys).length=s'.length:=by
   intro ys hy
   constructor
   ·unfold zCg
    rw [List.append_assoc,List.take_append_of_le_length (by simp;omega),List.take_take,Nat.min_self]
   ·simp [zCg,hy];omega
  have q1:=(hsp (List.replicate (s'.length-m) none) List.length_replicate).1
  have q2:=(hsp (List.replicate (s'.length-m) none) List.length_replicate).2
  rw [q2,decide_eq_true (by omega:(m:Int)≤(s'.length:Int))]
  simp only [cond_true,Bool.and_self]
  have:∀ys:List (Option SG),cut ys 0 (m:Int)=ys.take m:=by intro ys;simp [cut]
  rw [this,q1,←List.map_take,h3]
theorem xO7 (idx:Int) (g:SG):zLz (some g) idx=some (pf idx g):=by
 unfold zLz zP0 vK zB9 pf
 simp only [Option.bind_some]
 cases decide ((g.2.2.1.length:Int)>0)<;>cases decide (idx≥g.2.1)<;>rfl
theorem yCn (G:List SG) (hl:G.length≤1000) (idx:Int):zGw (true,G.map some) idx=some (match G.findIdx? (pf idx) with|some i=>(i:Int)|none=> -1):=by
 unfold zGw zUf xW wR
 simp only [Option.bind_some,Bool.not_true,Bool.not_false,cond_false]
 rw [xQr G _ (pf idx) (by omega) (fun x=>by rw [xO7];rfl)]
 rfl
theorem xJi (G:List SG) (hl:G.length≤1000):zKi (true,G.map some)=some ((G.filter fun g=> !pe g).map some):=by
 unfold zKi zUu xW wR jD vV
 simp only [Option.bind_some,Bool.not_true,Bool.not_false,cond_false,List.nil_append]
 rw [yT (by rw [List.length_map];omega)]
 simp only [cond_true,Option.bind_some]
 rw [xUq G _ pe (by omega) (fun x=>rfl)]
 rfl
def GR (n b:Nat) (S:List Sg) (G:List SG):Prop:=(S= []∧G= [])∨∃A s f,S=A++ [s]∧G=xO n b A++ [(((n+A.length:Nat):Int),f,yI (b+cnt A) 0 s.1,s.1)]∧(s.1≠ []→f=((b+cnt A:Nat):Int))
theorem GR.len {n b:Nat} {S:List Sg} {G:List SG} (h:GR n b S G):G.length=S.length:=by
 rcases h with ⟨rfl,rfl⟩|⟨A,s,f,rfl,rfl,_⟩
 ·rfl
 ·simp [zB7]
theorem GR.of_read {n b:Nat} (S:List Sg):GR n b S (xO n b S):=by
 rcases List.eq_nil_or_concat S with rfl|⟨A,s,rfl⟩
 ·exact .inl ⟨rfl,rfl⟩
 ·right
  rw [List.concat_eq_append,zSw]
  refine ⟨A,s,_,rfl,rfl,fun h=> ?_⟩
  cases hs:s.1 with
  |nil=>exact absurd hs h
  |cons _ _=>rfl
theorem GR.find {n b:Nat} {S:List Sg} {G:List SG} (h:GR n b S G) (idx:Int):G.findIdx? (pf idx)=(xO n b S).findIdx? (pf idx):=by
 rcases h with ⟨rfl,rfl⟩|⟨A,s,f,rfl,rfl,hf⟩
 ·rfl
 ·rw [zSw]
  cases hs:s.1 with
  |nil=>simp [List.findIdx?_append,List.findIdx?_cons,pf,yI]
  |cons a q=>
   rw [hf (by rw [hs];simp)]
   rfl
theorem GR.hasSome {n b:Nat} {S:List Sg} {G:List SG} (h:GR n b S G):(G.filter fun g=> !pe g)=(xO n b S).filter fun g=> !pe g:=by
 rcases h with ⟨rfl,rfl⟩|⟨A,s,f,rfl,rfl,hf⟩
 ·rfl
 ·rw [zSw]
  cases hs:s.1 with
  |nil=>simp [List.filter_append,pe,yI]
  |cons a q=>
   rw [hf (by rw [hs];simp)]
   rfl
def zGo:Nat→List Sg→Nat→Option Nat
 |_, [],_=>none
 |b,s::r,i=>if b≤i∧i<b+s.1.length then some 0 else (zGo (b+s.1.length) r i).map (· +1)
theorem zTa:∀ {n b:Nat} {S:List Sg} (i:Nat),yX n b S→i<18446744073709551616→(xO n b S).findIdx? (pf (i:Int))=zGo b S i
 |n,b, [],i,_,_=>rfl
 |n,b,s::r,i,h,hi=>by
  have h2t:=h.2.1.top
  have h2l:=h.2.1.low
  rw [xO,List.findIdx?_cons,zGo,zTa i h.tail hi]
  have e:pf (i:Int) ((n:Int),kU b s.1,yI b 0 s.1,s.1)=decide (b≤i∧i<b+s.1.length):=by
   unfold pf
   simp only [vN]
   cases hs:s.1 with
   |nil=>simp
   |cons a q=>
    rw [←hs]
    have hpos:0<s.1.length:=by rw [hs];simp
    have ef:kU b s.1=(b:Int):=by rw [hs];rfl
    rw [ef,yY9 h2t (by omega),Bool.eq_iff_iff]
    simp only [Bool.and_eq_true,decide_eq_true_eq]
    omega
  rw [e]
  by_cases hc:b≤i∧i<b+s.1.length
  ·rw [if_pos hc,decide_eq_true hc];rfl
  ·rw [if_neg hc,decide_eq_false hc];rfl
theorem yAo:∀ {b:Nat} {S:List Sg} {i k:Nat},zGo b S i=some k→∃A s B,S=A++s::B∧A.length=k∧b+cnt A≤i∧i<b+cnt A+s.1.length
 |b, [],i,k,h=>by simp [zGo] at h
 |b,s::r,i,k,h=>by
  rw [zGo] at h
  by_cases hc:b≤i∧i<b+s.1.length
  ·rw [if_pos hc] at h
   cases h
   exact ⟨[],s,r,rfl,rfl,by simp [cnt];omega,by simp [cnt];omega⟩
  ·rw [if_neg hc,Option.map_eq_some_iff] at h
   obtain ⟨k',h,rfl⟩:=h
   obtain ⟨A,x,B,e,hl,h1,h2⟩:=yAo h
   refine ⟨s::A,x,B,by rw [e];rfl,by simp [hl], ?_, ?_⟩
   ·rw [cnt];omega
   ·rw [cnt];omega
theorem xJs:∀ {b:Nat} {A B:List Sg} {s:Sg} {i:Nat},b+cnt A≤i→i<b+cnt A+s.1.length→zGo b (A++s::B) i=some A.length
 |b, [],B,s,i,h1,h2=>by
  simp only [cnt,Nat.add_zero] at h1 h2
  rw [List.nil_append,zGo,if_pos ⟨h1,h2⟩];rfl
 |b,a::A,B,s,i,h1,h2=>by
  rw [cnt] at h1 h2
  rw [List.cons_append,zGo,if_neg (by omega),xJs (by omega) (by omega)]
  rfl
theorem zY4:∀ {b:Nat} {S:List Sg} {i:Nat},zGo b S i=none→i<b∨b+cnt S≤i
 |b, [],i,h=>by simp [cnt];omega
 |b,s::r,i,h=>by
  rw [zGo] at h
  by_cases hc:b≤i∧i<b+s.1.length
  ·rw [if_pos hc] at h;cases h
  ·rw [if_neg hc,Option.map_eq_none_iff] at h
   have:=zY4 h
   rw [cnt];omega
theorem yUq {b:Nat} {S:List Sg} {i:Nat} (h:i<b∨b+cnt S≤i):zGo b S i=none:=by
 cases e:zGo b S i with
 |none=>rfl
 |some k=>
  obtain ⟨A,s,B,rfl,_,h1,h2⟩:=yAo e
  rw [zAu,cnt] at h
  omega
theorem xRq:∀ {n b:Nat} {S:List Sg},yX n b S→(cnt S=0→(xO n b S).filter (fun g=> !pe g)= [])∧(cnt S≠0→∃g r q h,(xO n b S).filter (fun g=> !pe g)=g::r∧(xO n b S).filter (fun g=> !pe g)=q++ [h]∧g.2.1=(b:Int)∧vK h=some ((b+cnt S-1:Nat):Int))
 |n,b, [],_=>⟨fun _=>rfl,fun h=>absurd rfl h⟩
 |n,b,s::r,h=>by
  obtain ⟨i1,i2⟩:=xRq h.tail
  have h2t:=h.2.1.top
  have h2l:=h.2.1.low
  rw [cnt,xO]
  cases hs:s.1 with
  |nil=>
   rw [hs] at i1 i2
   have ep:pe ((n:Int),kU b [],yI b 0 [], [])=true:=rfl
   simp only [List.length_nil,Nat.zero_add,Nat.add_zero,List.filter_cons,ep] at i1 i2 ⊢
   exact ⟨i1,i2⟩
  |cons a q=>
   rw [←hs]
   have hpos:0<s.1.length:=by rw [hs];simp
   have ep:pe ((n:Int),kU b s.1,yI b 0 s.1,s.1)=false:=by
    unfold pe
    simp only [vN]
    rw [beq_eq_false_iff_ne];omega
   have ef:kU b s.1=(b:Int):=by rw [hs];rfl
   simp only [List.filter_cons,ep,Bool.not_false,if_true]
   refine ⟨fun h=>by omega,fun _=> ?_⟩
   have el:vK ((n:Int),kU b s.1,yI b 0 s.1,s.1)=some ((b+s.1.length-1:Nat):Int):=by
    unfold vK zB9
    simp only [vN,ef]
    rw [yY9 h2t (by omega)]
   by_cases hz:cnt r=0
   ·rw [i1 hz,hz]
    exact ⟨_, [], [],_,rfl,rfl,ef,el⟩
   ·obtain ⟨g,r',q',h',e1,e2,e3,e4⟩:=i2 hz
    refine ⟨_,_,_::q',h',rfl,by rw [e2];rfl,ef, ?_⟩
    rw [e4,Nat.add_assoc]
theorem xSr {n b:Nat} {S:List Sg} {G:List SG} (h:yX n b S) (hg:GR n b S G) (hl:S.length≤64):zIo (true,G.map some)=some (if cnt S=0 then 0 else (b:Int)):=by
 have hgl:=hg.len
 unfold zIo zR8
 rw [xJi G (by omega),hg.hasSome]
 obtain ⟨f1,f2⟩:=xRq h
 by_cases hz:cnt S=0
 ·rw [f1 hz,if_pos hz];rfl
 ·obtain ⟨g,r,q,k,e1,e2,e3,e4⟩:=f2 hz
  rw [if_neg hz,e1]
  simp only [Option.bind_some,List.map_cons]
  have:(((some g::r.map some).length:Int)==0)=false:=by rw [beq_eq_false_iff_ne,List.length_cons];omega
  rw [this,decide_eq_true (by rw [List.length_cons];omega:(0:Int)<((some g::r.map some).length:Int))]
  simp [e3]
theorem zXv {n b:Nat} {S:List Sg} {G:List SG} (h:yX n b S) (hg:GR n b S G) (hl:S.length≤64):zBv (true,G.map some)=some (if cnt S=0 then 0 else ((b+cnt S-1:Nat):Int)):=by
 have hgl:=hg.len
 unfold zBv zUt
 rw [xJi G (by omega),hg.hasSome]
 obtain ⟨f1,f2⟩:=xRq h
 have hfl:((xO n b S).filter (fun g=> !pe g)).length≤64:=Nat.le_trans (List.length_filter_le _ _) (by rw [zB7];exact hl)
 by_cases hz:cnt S=0
 ·rw [f1 hz,if_pos hz];rfl
 ·obtain ⟨g,r,q,k,e1,e2,e3,e4⟩:=f2 hz
  rw [e2] at hfl
  rw [if_neg hz,e2]
  simp only [Option.bind_some,List.map_append,List.map_cons,List.map_nil]
  have hlen:((q.map some++ [some k]).length:Int)=(q.length:Int)+1:=by simp
  rw [List.length_append,List.length_singleton] at hfl
  rw [hlen]
  have:(((q.length:Int)+1)==0)=false:=by rw [beq_eq_false_iff_ne];omega
  have ew:IntKind.wrap .i64 ((q.length:Int)+1-1)=(q.length:Int):=by rw [yQ (by omega) (by omega)];omega
  rw [this,ew,decide_eq_true (by omega:(0:Int)≤(q.length:Int)),decide_eq_true (by omega:(q.length:Int)<(q.length:Int)+1),Int.toNat_natCast]
  have:(q.map some++ [some k])[q.length]? =some (some k):=by
   rw [List.getElem?_append_right (by simp)]
   simp
  rw [this]
  simp only [cond_false,cond_true,Bool.and_self,Option.bind_some,e4]
end Go.Proofs.YtlhifcknhgmidaaGreatDoor.gg
