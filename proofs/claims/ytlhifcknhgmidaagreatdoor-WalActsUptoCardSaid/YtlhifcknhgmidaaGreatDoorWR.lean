/- A part of our own proof. -/
import Derived.Test.YtlhifcknhgmidaaGreatDoorN
import Derived.Test.YtlhifcknhgmidaaGreatDoorWQ
open Go Go.GG Go.Proofs
set_option linter.unusedVariables false
namespace Go.Proofs.YtlhifcknhgmidaaGreatDoor.gg
theorem xK7 {m:FL} {n b:Nat} {S:List Sg} {G:List SG} {d:List Int} (h:Log m n b S G):xA (m,G) (0,d)=some (1,(m,G)):=by
 have hlast:=zXv h.fine h.gr h.len
 unfold xA vR xW wR
 simp only
 rw [hlast]
 simp only [Option.bind_some,Bool.not_true,Bool.not_false,cond_false]
 rw [show ((0:Int)==0)=true from rfl,cond_true]
theorem xPd {n b:Nat} {S:List Sg} {d:List Int} (h:yX n b S) (hl:S.length≤64):wH (fl n b S []) (0,d)=some (fl n b S [],1):=by
 unfold wH zFd
 rw [yIu h hl,Option.bind_some,show ((0:Int)==0)=true from rfl,cond_true]
theorem xQd {n b:Nat} {S:List Sg} {d:List Int} {i:Int} (h:yX n b S) (hl:S.length≤64) (hi:i≠0) (hd:4096<d.length):wH (fl n b S []) (i,d)=some (fl n b S [],3):=by
 have i0:(i==0)=false:=by rw [beq_eq_false_iff_ne];exact hi
 unfold wH zFd
 rw [yIu h hl,Option.bind_some,i0,cond_false,decide_eq_true (by omega:(d.length:Int)>4096),cond_true]
theorem xOn {m:FL} {n b:Nat} {S:List Sg} {G:List SG} {d:List Int} {i:Nat} (h:Log m n b S G) (hi:1≤i) (hd:d.length≤4096) (hz:cnt S≠0) (hg:((i:Int) !=IntKind.wrap .u64 (((b+cnt S-1:Nat):Int)+1))=true):xA (m,G) ((i:Int),d)=some (12,(m,G)):=by
 have hlast:=zXv h.fine h.gr h.len
 rw [if_neg hz] at hlast
 have i0:((i:Int)==0)=false:=by rw [beq_eq_false_iff_ne];omega
 have hr:=h.fine.range.resolve_left (fun e=>hz (by rw [e];rfl))
 have b2:(((b+cnt S-1:Nat):Int) !=0)=true:=by rw [bne_iff_ne];omega
 unfold xA vR xW wR
 simp only
 rw [hlast]
 simp only [Option.bind_some,Bool.not_true,Bool.not_false,cond_false,i0]
 rw [decide_eq_false (by omega:¬(d.length:Int)>4096),cond_false,b2,cond_true,hg,cond_true]
theorem xR5 {n b:Nat} {S:List Sg} {d:List Int} {i:Nat} (h:yX n b S) (hl:S.length≤64) (hi:1≤i) (hd:d.length≤4096) (hz:cnt S≠0) (hg:((i:Int) !=IntKind.wrap .u64 (((b+cnt S-1:Nat):Int)+1))=true):wH (fl n b S []) ((i:Int),d)=some (fl n b S [],12):=by
 have i0:((i:Int)==0)=false:=by rw [beq_eq_false_iff_ne];omega
 unfold wH zFd
 rw [yIu h hl,Option.bind_some,i0,cond_false,decide_eq_false (by omega:¬(d.length:Int)>4096),cond_false,xQh h hl,Option.bind_some,decide_eq_false hz,cond_false,hg,cond_true]
theorem xLn {m:FL} {n b:Nat} {S:List Sg} {G:List SG} {d:List Int} {i:Nat} (h:Log m n b S G) (hi:i<18446744073709551616) (hB:∀x∈d,yD x):
 ∃m' G' n' b' S' e,xA (m,G) ((i:Int),d)=some (e,(m',G'))∧wH (fl n b S []) ((i:Int),d)=some (fl n' b' S' [],e)∧Log m' n' b' S' G':=by
 have hl:=h.len
 by_cases h0:i=0
 ·subst h0
  exact ⟨m,G,n,b,S,1,xK7 h,xPd h.fine hl,h⟩
 by_cases hd:4096<d.length
 ·exact ⟨m,G,n,b,S,3,xLr h (by omega) hd,xQd h.fine hl (by omega) hd,h⟩
 have hro:ROk d:=⟨hB,by omega⟩
 have good:∀b,Log m n b S G→i=b+cnt S→∃m' G' n' b' S' e,xA (m,G) ((i:Int),d)=some (e,(m',G'))∧wH (fl n b S []) ((i:Int),d)=some (fl n' b' S' [],e)∧Log m' n' b' S' G':=by
  intro b h e
  rcases List.eq_nil_or_concat S with rfl|⟨A,s,rfl⟩
  ·obtain ⟨m',G',e1,hL⟩:=xKx h hro (by omega) hi
   exact ⟨m',G',1,i,_,0,e1,xOq (n:=1) (b:=1) hro (by omega) hi,hL⟩
  ·rw [List.concat_eq_append] at*
   by_cases hs:(enc (b+cnt A) s.1).length≤4096
   ·obtain ⟨m',G',e1,hL⟩:=xLk h hro e hi hs
    exact ⟨m',G',n,b,_,0,e1,xO0 h hro e hi hs,hL⟩
   ·have h1:=yHx h hro e hi (by omega)
    have h2:=xQ1 h hro e hi (by omega)
    by_cases hfull:n+A.length+1>99999999∨(A++ [s]).length≥64
    ·rw [if_pos hfull] at h1 h2
     obtain ⟨m',e1,hL⟩:=h1
     exact ⟨m',G,n,b,_,2,e1,h2,hL⟩
    ·rw [if_neg hfull] at h1 h2
     obtain ⟨m',G',e1,hL⟩:=h1
     exact ⟨m',G',n,b,_,0,e1,h2,hL⟩
 by_cases hz:cnt S=0
 ·have hr:=h.rebase hz (i:=i) (by omega) hi
  obtain ⟨m',G',n',b',S',e,e1,e2,hL⟩:=good i hr (by omega)
  rw [xPo h hz] at e2
  exact ⟨m',G',n',b',S',e,e1,e2,hL⟩
 ·have hr:=h.fine.range.resolve_left (fun e=>hz (by rw [e];rfl))
  cases hg:((i:Int) !=IntKind.wrap .u64 (((b+cnt S-1:Nat):Int)+1)) with
  |true=>exact ⟨m,G,n,b,S,12,xOn h (by omega) (by omega) hz hg,xR5 h.fine hl (by omega) (by omega) hz hg,h⟩
  |false=>
   refine good b h ?_
   by_cases htop:b+cnt S=18446744073709551616
   ·rw [show ((b+cnt S-1:Nat):Int)+1=18446744073709551616 by omega,show IntKind.wrap .u64 18446744073709551616=0 by decide] at hg
    have:(i:Int)=0:=by simpa using hg
    omega
   ·rw [zBo (by omega) (by omega),show ((b+cnt S-1:Nat):Int)+1=((b+cnt S:Nat):Int) by omega] at hg
    have:(i:Int)=((b+cnt S:Nat):Int):=by simpa using hg
    omega
theorem xR2 {m:FL} {n b:Nat} {S:List Sg} {G:List SG} {i:Nat} (h:Log m n b S G) (hi:i<18446744073709551616):
 ∃m' G' n' b' S' e,zAi (m,G) (i:Int)=some (e,(m',G'))∧zCb (fl n b S []) (i:Int)=some (fl n' b' S' [],e)∧Log m' n' b' S' G':=by
 by_cases hc:b≤i∧i<b+cnt S
 ·cases ep:zGo b S i with
  |none=>have:=zY4 ep;omega
  |some k=>
   obtain ⟨A,s,B,rfl,_,e2,e3⟩:=yAo ep
   obtain ⟨m',G',e,hL⟩:=xNm h e2 e3
   exact ⟨m',G',n,b,_,0,e,xTz h e2 e3,hL⟩
 ·exact ⟨m,G,n,b,S,4,xLa h hi (by omega),xR7 h.fine h.len (by omega),h⟩
theorem xP7 {m:FL} {n b:Nat} {S:List Sg} {G:List SG} {i:Nat} (h:Log m n b S G) (hi:i<18446744073709551616):
 ∃m' G' n' b' S' e,zAh (m,G) (i:Int)=some (e,(m',G'))∧zCa (fl n b S []) (i:Int)=some (fl n' b' S' [],e)∧Log m' n' b' S' G':=by
 by_cases hc:b≤i∧i<b+cnt S
 ·obtain ⟨m',G',e,hL⟩:=xQ6 h hc.1 hc.2
  exact ⟨m',G',_,_,_,0,e,xSt h hc.1 hc.2,hL⟩
 ·exact ⟨m,G,n,b,S,4,xOx h hi (by omega),xQi h.fine h.len (by omega),h⟩
theorem xP3 {m:FL} {n b:Nat} {S:List Sg} {G:List SG} (h:Log m n b S G):
 ∃m' G' n' b' S',zEd (m,G)=some (m',G')∧zIa (fl n b S [])=some (fl n' b' S' [])∧Log m' n' b' S' G':=by
 rcases List.eq_nil_or_concat S with rfl|⟨A,s,rfl⟩
 ·have hG:G= []:=List.length_eq_zero_iff.1 (by rw [h.gr.len];rfl)
  subst hG
  exact ⟨m, [],n,b, [],xPq,xOz,h⟩
 ·rw [List.concat_eq_append] at*
  obtain ⟨m',e,hL⟩:=xRp h
  exact ⟨m',G,n,b,_,e,xRu h,hL⟩
theorem xNb {m:FL} {n b:Nat} {S:List Sg} {G:List SG} (h:Log m n b S G) (cuts:List Int):
 ∃m1 X m2 G2 n' b' S',zB5 m cuts=some m1∧zOw (fl n b S []) cuts=some X∧zH8 X=some (fl n' b' S' [])∧zIb m1=some ((some ((),G2)),0,m2)∧Log m2 n' b' S' G2:=by
 obtain ⟨m1,e1,hm1⟩:=xSb h.st cuts
 have er:=xPm h.st cuts
 rcases List.eq_nil_or_concat S with rfl|⟨A,s,rfl⟩
 ·obtain ⟨m2,e2,hm2⟩:=xFk (m:=m1) hm1
  exact ⟨m1,_,m2, [],n,b, [],e1,er,xP8,e2,⟨hm2,trivial, .inl ⟨rfl,rfl⟩⟩⟩
 ·rw [List.concat_eq_append] at*
  obtain ⟨p1,p2,p3,p4,p5,p6,p7,p8⟩:=h.parts
  obtain ⟨k,p,t,hk,hp,e,ht,htk,hep,hmax⟩:=xRa h cuts
  rw [e] at hm1 er
  have hle:=yMl (b+cnt A) s.1 k
  have hF:yX n b (A++ [(s.1.take k,p)]):=by
   have:=yX.change (s':=(s.1.take k,0)) h.fine (p3.take k) (by show (enc (b+cnt A) (s.1.take k)).length≤9000;omega) (Nat.zero_le _)
   exact yX.safe this
  have hr:=h.fine.range.resolve_left (by simp)
  have htop:t≠ []→b+cnt (A++ [(s.1.take k,p)])<18446744073709551616:=fun h0=>by
   have:=htk h0
   rw [yY2] at hr ⊢
   simp only [List.length_take]
   omega
  obtain ⟨m2,G2,e2,hL⟩:=xRj hm1 hF ht htop
  exact ⟨m1,_,m2,G2,n,b,_,e1,er,xRv hm1 hF ht htop,e2,hL⟩
theorem xRr (x:Int):∃i:Nat,IntKind.wrap .u64 x=(i:Int)∧i<18446744073709551616:=by
 have h:IntKind.wrap .u64 x=x % 18446744073709551616:=yJj x
 refine ⟨(x % 18446744073709551616).toNat, ?_,by omega⟩
 rw [h];omega
theorem xTy {l:xU1} {j:Nat} (hj:j<l.length) (hl:l.length≤1048576) (hB:∀x∈l[j].2.2.2.1,yD x) (hX:0≤l[j].2.1∧l[j].2.1<18446744073709551616) {m:FL} {n b:Nat} {S:List Sg} {G:List SG} (h:Log m n b S G):
 ∃m' G' n' b' S',zAf (fl n b S []) l (j:Int) () () m G=zAf (fl n' b' S' []) l ((j+1:Nat):Int) () () m' G'∧Log m' n' b' S' G':=by
 have hlast:=zXv h.fine h.gr h.len
 rw [yAw];unfold zEk;rw [decide_eq_true (by omega:(j:Int)<(l.length:Int)),cond_true,wY hj,Option.bind_some]
 generalize l[j]=a at hB hX
 have hp:∃(i:Nat) (st:Bool),i<18446744073709551616∧zF2 (fl n b S []) l (j:Int) () () a m G=some (fl n b S [],l,(j:Int),(),(),(a.1,(i:Int),st,a.2.2.2.1,a.2.2.2.2),m,G):=by
  unfold zF2 zJ6
  cases hst:a.2.2.1 with
  |true=>
   rw [cond_true,hlast,Option.bind_some]
   obtain ⟨i,e,hi⟩:=xRr ((if cnt S=0 then 0 else ((b+cnt S-1:Nat):Int))+1)
   exact ⟨i,true,hi,by rw [e]⟩
  |false=>
   rw [cond_false]
   refine ⟨a.2.1.toNat,a.2.2.1,by omega, ?_⟩
   rw [show ((a.2.1.toNat:Nat):Int)=a.2.1 by omega]
 obtain ⟨i,st,hi,e33⟩:=hp
 rw [e33,Option.bind_some]
 simp only
 rw [yW (by omega)]
 have n0:((0:Int) !=0)=false:=rfl
 cases h1:(a.1==1) with
 |true=>
  rw [cond_true]
  obtain ⟨m',G',n',b',S',e1,e2,hL⟩:=xP3 h
  obtain ⟨m2,e3,hL2⟩:=xAb hL
  refine ⟨m2,G',n',b',S', ?_,hL2⟩
  rw [e1,Option.bind_some,e2,Option.bind_some,e3,Option.bind_some]
  rfl
 |false=>
 rw [cond_false]
 cases h2:(a.1==2) with
 |true=>
  rw [cond_true]
  obtain ⟨m',G',n',b',S',e,e1,e2,hL⟩:=xR2 h hi
  obtain ⟨m2,e3,hL2⟩:=xAb hL
  refine ⟨m2,G',n',b',S', ?_,hL2⟩
  rw [e1,Option.bind_some,e2,Option.bind_some,show (e !=e)=false by simp,cond_false,e3,Option.bind_some]
  rfl
 |false=>
 rw [cond_false]
 cases h3:(a.1==3) with
 |true=>
  rw [cond_true]
  obtain ⟨m',G',n',b',S',e,e1,e2,hL⟩:=xP7 h hi
  obtain ⟨m2,e3,hL2⟩:=xAb hL
  refine ⟨m2,G',n',b',S', ?_,hL2⟩
  rw [e1,Option.bind_some,e2,Option.bind_some,show (e !=e)=false by simp,cond_false,e3,Option.bind_some]
  rfl
 |false=>
 rw [cond_false]
 cases h4:(a.1==4) with
 |true=>
  rw [cond_true]
  obtain ⟨m1,X,m2,G2,n',b',S',e1,e2,e3,e4,hL⟩:=xNb h a.2.2.2.2
  obtain ⟨m3,e5,hL3⟩:=xAb hL
  refine ⟨m3,G2,n',b',S', ?_,hL3⟩
  rw [e1,Option.bind_some,e2,Option.bind_some,e3,Option.bind_some,e4,Option.bind_some]
  simp only [Option.elim_some]
  rw [n0,cond_false,e5,Option.bind_some]
  rfl
 |false=>
  rw [cond_false]
  obtain ⟨m',G',n',b',S',e,e1,e2,hL⟩:=xLn (d:=a.2.2.2.1) h hi hB
  obtain ⟨m2,e3,hL2⟩:=xAb hL
  refine ⟨m2,G',n',b',S', ?_,hL2⟩
  rw [e1,Option.bind_some,e2,Option.bind_some,show (e !=e)=false by simp,cond_false,e3,Option.bind_some]
  rfl
theorem xK5 (l:xU1) (hl:l.length≤1048576) (hB:∀a∈l,(∀x∈a.2.2.2.1,yD x)∧0≤a.2.1∧a.2.1<18446744073709551616):∃k,zWb k l=some true:=by
 refine (yZb l).fin ?_
 unfold yCj zRz yEw yG8
 obtain ⟨m,e,hm⟩:=xFk xKf
 obtain ⟨l',el,hsub,hl'⟩:=xSm hl
 rw [Option.bind_some,e]
 simp only [Option.bind_some,Option.elim_some]
 rw [show ((0:Int) !=0)=false from rfl,cond_false,el,Option.bind_some]
 have key:=zTm (S:=FL×FL×List SG) l'.length (fun i s=>zAf s.1 l' (i:Int) () () s.2.1 s.2.2) (fun i s=>∃n b S,s.1=fl n b S []∧Log s.2.1 n b S s.2.2) (fun r=>r=some (.inl ()))
  (fun i s hi hs=>by
   obtain ⟨L,m,G⟩:=s
   obtain ⟨n,b,S,e,h⟩:=hs
   simp only at e h ⊢
   subst e
   have hb:=hB _ (hsub _ (List.getElem_mem hi))
   obtain ⟨m',G',n',b',S',e,h'⟩:=xTy hi hl' hb.1 hb.2 h
   exact .inl ⟨(fl n' b' S' [],m',G'),e,n',b',S',rfl,h'⟩)
  (fun s hs=>by
   try dsimp only
   rw [yAw];unfold zEk;rw [decide_eq_false (by omega:¬(l'.length:Int)<(l'.length:Int)),cond_false]) 0 ([],m, []) (Nat.zero_le _) ⟨1,1, [],rfl,hm,trivial, .inl ⟨rfl,rfl⟩⟩
 simp only [show ((0:Nat):Int)=0 from rfl] at key
 rw [key,Option.bind_some,Sum.elim_inl,xP4]
 rfl
end Go.Proofs.YtlhifcknhgmidaaGreatDoor.gg
