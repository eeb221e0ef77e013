/- A part of our own proof. -/
import Derived.Test.YtlhifcknhgmidaaGreatDoorWH
open Go Go.GG Go.Proofs
set_option linter.unusedVariables false
namespace Go.Proofs.YtlhifcknhgmidaaGreatDoor.gg
def xS2 (b:Nat) (S:List Sg) (k:Nat):Prop:=k≤cnt S∧∀A s,S=A++ [s]→(enc (b+cnt A) (s.1.take (k-cnt A))).length≤s.2
theorem xS2.nil {b:Nat}:xS2 b [] 0:=⟨Nat.zero_le _,fun A s e=>by simp at e⟩
theorem yY2 (A:List Sg) (s:Sg):cnt (A++ [s])=cnt A+s.1.length:=by rw [zAu,cnt,cnt];omega
theorem yUs:∀ {n b:Nat} {S:List Sg},yX n b S→cnt S≤9000*S.length
 |n,b, [],_=>by simp [cnt]
 |n,b,s::r,h=>by
  have:=yUs h.tail
  have h1:=h.2.2.1.1
  have h2:=zK2 b s.1
  rw [cnt,List.length_cons];omega
theorem xMg:∀ {n b:Nat} {A B:List Sg},yX n b (A++B)→B≠ []→∀x∈fl n b A [],x.2.2=(x.2.1.length:Int)
 |n,b, [],B,_,_,x,hx=>by simp [fl] at hx
 |n,b,s::A,B,h,hB,x,hx=>by
  rw [fl,List.mem_cons] at hx
  rcases hx with rfl|hx
  ·have:=(h.2.2.2.2.1 (by simp [hB])).2.1
   have e:tl A []= []:=by cases A<;>rfl
   simp only [e,List.append_nil]
   omega
  ·exact xMg h.tail hB x hx
theorem xN0 {cuts:List Int} {i:Nat} {v:FT} (h:v.2=(v.1.length:Int)):zN5 cuts i v=v:=by
 have hs:=yOm (cuts:=cuts) (i:=i) (v:=v) (by omega)
 unfold zN5
 rw [show v.2+zE1 cuts i v=(v.1.length:Int) by omega,zYd,List.take_length]
 rw [←h]
theorem xRa {m:FL} {n b:Nat} {A:List Sg} {s:Sg} {G:List SG} (h:Log m n b (A++ [s]) G) (cuts:List Int):
 ∃k p t,k≤s.1.length∧s.2≤p∧zOr cuts (fl n b (A++ [s]) [])=fl n b (A++ [(s.1.take k,p)]) t∧yE8 t∧(t≠ []→k<s.1.length)∧(enc (b+cnt A) (s.1.take k)).length≤p∧(∀j,j≤s.1.length→(enc (b+cnt A) (s.1.take j)).length≤s.2→j≤k):=by
 obtain ⟨p1,p2,p3,p4,p5,p6,p7,p8⟩:=h.parts
 have hs:=yOm (cuts:=cuts) (i:=A.length) (v:=((enc (b+cnt A) s.1,(s.2:Int)):FT)) (by show (s.2:Int)≤((enc (b+cnt A) s.1).length:Int);omega)
 obtain ⟨q,hq⟩:∃q:Nat,(s.2:Int)+zE1 cuts A.length (enc (b+cnt A) s.1,(s.2:Int))=(q:Int):=⟨((s.2:Int)+zE1 cuts A.length (enc (b+cnt A) s.1,(s.2:Int))).toNat,by simp only at hs;omega⟩
 simp only at hs
 have hql:q≤(enc (b+cnt A) s.1).length:=by omega
 obtain ⟨k,t,hk,he,hb,hm⟩:=xEt (b+cnt A) s.1 q p3 hql
 have hlen:=congrArg List.length he
 rw [List.length_take,List.length_append,Nat.min_eq_left hql] at hlen
 have hbyte:∀x∈t,yD x:=fun x hx=>yQ4 p3 x (List.mem_of_mem_take (by rw [he];exact List.mem_append_right _ hx))
 refine ⟨k,q,t,hk,by omega, ?_,⟨hb,hbyte,by omega⟩,fun ht=> ?_,by omega,fun j hj hjs=>hm j hj (by omega)⟩
 ·have hl1:=zFs n b (A++ [s]) []
  refine List.ext_getElem (by rw [zK7,zFs,zFs,List.length_append,List.length_append];rfl) fun i h1 h2=> ?_
  rw [zK7] at h1
  rw [yO2 h1]
  have hA:(fl n b A []).length=A.length:=zFs n b A []
  by_cases hi:i<A.length
  ·have e1:(fl n b (A++ [s]) [])[i]=(fl n b A [])[i]'(by omega):=by
    simp only [zNl]
    rw [List.getElem_append_left (by omega)]
   have e2:(fl n b (A++ [(s.1.take k,q)]) t)[i]=(fl n b A [])[i]'(by omega):=by
    simp only [yH3]
    rw [List.getElem_append_left (by omega)]
   rw [e1,e2,xN0 (xMg h.fine (by simp) _ (List.getElem_mem _))]
  ·have hi2:i=A.length:=by
    rw [zFs,List.length_append,List.length_singleton] at h1
    omega
   have e1:(fl n b (A++ [s]) [])[i]=(nm (n+A.length),(enc (b+cnt A) s.1,(s.2:Int))):=by
    simp only [zNl]
    rw [List.getElem_append_right (by omega)]
    simp [hA,hi2]
   have e2:(fl n b (A++ [(s.1.take k,q)]) t)[i]=(nm (n+A.length),(enc (b+cnt A) (s.1.take k)++t,(q:Int))):=by
    simp only [yH3]
    rw [List.getElem_append_right (by omega)]
    simp [hA,hi2]
   rw [e1,e2,hi2]
   unfold zN5
   simp only
   rw [hq,zYd,he]
 ·by_cases hkk:k<s.1.length
  ·exact hkk
  ·rw [List.take_of_length_le (by omega)] at hlen
   have:=List.length_pos_iff.2 ht
   omega
theorem xSm {l:List (Int×Int×Bool×List Int×List Int)} (hl:l.length≤1048576):∃l',zTe l=some l'∧(∀a∈l',a∈l)∧l'.length≤1048576:=by
 have key:=zTm (S:=Int) l.length (fun i s=>zMa l s (i:Int)) (fun i s=>True) (fun r=>∃l',(r=some (.inl l')∨r=some (.inr l'))∧(∀a∈l',a∈l)∧l'.length≤1048576)
  (fun i s hi hs=>by
   try dsimp only
   have hc:∀k:Nat,cut l 0 (k:Int)=l.take k:=fun k=>zYd l k
   have hpre:∃l',(some (.inr (l.take i)):Option (List (Int×Int×Bool×List Int×List Int)⊕List (Int×Int×Bool×List Int×List Int)))=some (.inr l')∧(∀a∈l',a∈l)∧l'.length≤1048576:=⟨_,rfl,fun a ha=>List.mem_of_mem_take ha,by rw [List.length_take];omega⟩
   rw [yGq];unfold zJx;rw [decide_eq_true (by omega:(i:Int)<(l.length:Int)),wY hi,decide_eq_true (by omega:(0:Int)≤(i:Int)),decide_eq_true (by omega:(i:Int)≤(l.length:Int)),hc,yW (by omega)]
   simp only [cond_true,Bool.and_self,Option.bind_some]
   cases decide (IntKind.wrap .i64 (s+((l[i].2.2.2.1.length:Nat):Int))>40000) with
   |true=>
    obtain ⟨l',e,h2⟩:=hpre
    exact .inr ⟨l', .inr e,h2⟩
   |false=>
    cases decide ((i:Int)≥80) with
    |true=>
     obtain ⟨l',e,h2⟩:=hpre
     exact .inr ⟨l', .inr e,h2⟩
    |false=>exact .inl ⟨_,rfl,trivial⟩)
  (fun s hs=>by
   try dsimp only
   refine ⟨l, .inl ?_,fun a ha=>ha,hl⟩
   rw [yGq];unfold zJx;rw [decide_eq_false (by omega:¬(l.length:Int)<(l.length:Int))]
   rfl) 0 0 (Nat.zero_le _) trivial
 obtain ⟨l',h1,h2⟩:=key
 simp only [show ((0:Nat):Int)=0 from rfl] at h1
 refine ⟨l', ?_,h2⟩
 unfold zTe zWv
 rcases h1 with e|e
 ·rw [e];rfl
 ·rw [e];rfl
theorem xLr {m:FL} {n b:Nat} {S:List Sg} {G:List SG} {d:List Int} {i:Int} (h:Log m n b S G) (hi:i≠0) (hd:4096<d.length):xA (m,G) (i,d)=some (3,(m,G)):=by
 have hlast:=zXv h.fine h.gr h.len
 have i0:(i==0)=false:=by rw [beq_eq_false_iff_ne];exact hi
 unfold xA vR xW wR
 simp only
 rw [hlast]
 simp only [Option.bind_some,Bool.not_true,Bool.not_false,cond_false,i0]
 rw [decide_eq_true (by omega:(d.length:Int)>4096),cond_true]
end Go.Proofs.YtlhifcknhgmidaaGreatDoor.gg
