/- A part of our own proof. -/
import Derived.Test.YtlhifcknhgmidaaGreatDoorC
import Derived.Test.YtlhifcknhgmidaaGreatDoorWL
open Go Go.GG Go.Proofs
set_option linter.unusedVariables false
namespace Go.Proofs.YtlhifcknhgmidaaGreatDoor.gg
theorem xFa {t:List Int} {L:FL} (ht:yE8 t):∀(S2:List Sg) (n b nx bf i:Nat) (O:List (Int×List (Int×List Int)×List Int)),yX n b S2→i+S2.length=L.length→L.drop i=fl n b S2 t→(nx=0∨nx=b)→(bf=0∨bf+1=n)→L.length≤64→O.length≤i→
 (t≠ []→b+cnt S2<18446744073709551616)→
 zBl L (nx:Int) (bf:Int) (i:Int) O=some (.inl (O++wB i b S2))∨zBl L (nx:Int) (bf:Int) (i:Int) O=some (.inr (O++wB i b S2))
 | [],n,b,nx,bf,i,O,hF,hi,hL,hnx,hbf,hl,hO,htop=>by
   left
   rw [zX9];unfold zDc;rw [decide_eq_false (by simp at hi;omega:¬(i:Int)<(L.length:Int))]
   simp [wB]
 |s::r,n,b,nx,bf,i,O,hF,hi,hL,hnx,hbf,hl,hO,htop=>by
  obtain ⟨h1,h2,h3,h4,h5,h6⟩:=hF
  rw [List.length_cons] at hi
  have hiL:i<L.length:=by omega
  rw [List.drop_eq_getElem_cons hiL,fl] at hL
  injection hL with hL1 hL2
  have h2t:=h2.top
  have h2l:=h2.low
  have en:L[i].1=nm n:=by rw [hL1]
  have hft:yE8 (tl r t):=by
   cases r with
   |nil=>exact ht
   |cons _ _=>exact yPm
  have hmain:=xIz (b:=b) (nx:=nx) (n:=n) (L:=L) (i:=i) (f:=L[i]) (O:=O) hft hnx (by omega) hiL rfl s.1 [] (by rw [List.nil_append];exact h2) (by rw [List.nil_append];exact h3.1) (by rw [List.nil_append,hL1]) (by
   intro h
   rw [List.nil_append]
   cases r with
   |nil=>
    have:=htop h
    simp only [cnt] at this
    omega
   |cons _ _=>exact absurd rfl h) (by rw [List.length_nil];exact h3.2)
  have hmain:kQ L (nx:Int) (n:Int) (i:Int) 0 O (i:Int) [] []=_:=hmain
  simp only [List.nil_append] at hmain
  have hnz:((n:Int)==0)=false:=by rw [beq_eq_false_iff_ne];omega
  have hskip:∀X Y:Option (List (Int×List (Int×List Int)×List Int)⊕List (Int×List (Int×List Int)×List Int)),(bif (decide ((bf:Int)>0)) then (bif ((n:Int) !=(IntKind.wrap .i64 ((bf:Int)+1))) then X else Y) else Y)=Y:=by
   intro X Y
   by_cases h0:bf=0
   ·rw [decide_eq_false (by omega:¬(bf:Int)>0)];rfl
   ·have e:IntKind.wrap .i64 ((bf:Int)+1)=(n:Int):=by rw [yQ (by omega) (by omega)];omega
    have:((n:Int) !=(n:Int))=false:=by simp
    rw [e,this]
    cases decide ((bf:Int)>0)<;>rfl
  rw [zX9];unfold zDc;rw [decide_eq_true (by omega:(i:Int)<(L.length:Int)),cond_true,wY hiL,Option.bind_some,en,yG0 (by omega),Option.bind_some,hnz,cond_false,hskip,hmain]
  by_cases hc:tl r t≠ []∨(s.1≠ []∧b+s.1.length=18446744073709551616)
  ·rw [if_pos hc]
   have hr:r= []:=by
    by_cases hr:r= []
    ·exact hr
    ·rcases hc with hc|hc
     ·cases r with
      |nil=>exact absurd rfl hr
      |cons _ _=>exact absurd rfl hc
     ·have:=(h5 hr).2.2
      omega
   subst hr
   right
   rfl
  ·rw [if_neg hc]
   simp only [Option.bind_some,Sum.elim_inl]
   rw [yT (by simp;omega),cond_true,yW (by omega)]
   have hgs:O++wB i b (s::r)=(O++ [((i:Int),vC b s.1,yI b 0 s.1)])++wB (i+1) (b+s.1.length) r:=by simp [wB]
   rw [hgs]
   refine xFa ht r (n+1) (b+s.1.length) (nxt nx b s.1) n (i+1) _ h6 (by omega) hL2 ?_ (.inr rfl) hl (by simp;omega) (fun h=> ?_)
   ·cases hs:s.1 with
    |nil=>rw [show nxt nx b []=nx from rfl];simpa using hnx
    |cons a q=>exact .inr rfl
   ·have:=htop h
    rw [cnt] at this
    omega
theorem xL6 {n b:Nat} {S:List Sg} {t:List Int} (h:yX n b S) (hl:S.length≤64) (ht:yE8 t) (htop:t≠ []→b+cnt S<18446744073709551616):vD (fl n b S t)=some (wB 0 b S):=by
 unfold vD zPj
 have hL:=zFs n b S t
 have key:=xFa (L:=fl n b S t) ht S n b 0 0 0 [] h (by omega) (by simp) (.inl rfl) (.inl rfl) (by omega) (by simp) htop
 simp only [List.nil_append,show ((0:Nat):Int)=0 from rfl] at key
 rcases key with e|e
 ·rw [e];rfl
 ·rw [e];rfl
theorem yGy {n b:Nat} {S:List Sg} (h:yX n b S) (hl:S.length≤64):vD (fl n b S [])=some (wB 0 b S):=xL6 h hl yPm (fun e=>absurd rfl e)
theorem yZw {n b:Nat} {S:List Sg} (h:yX n b S) (hl:S.length≤64):∀(B A:List Sg),S=A++B→zGi (A.length:Int) (vC b (vY A)) (wB 0 b S)=some (vC b (vY S))
 | [],A,e=>by
   rw [List.append_nil] at e
   rw [yGo];unfold zI8;rw [vO,decide_eq_false (by rw [e];omega:¬(A.length:Int)<(S.length:Int)),cond_false,e]
 |s::B,A,e=>by
  have hlen:S.length=A.length+(B.length+1):=by rw [e];simp
  have hg:(wB 0 b S)[A.length]? =some ((A.length:Int),vC (b+cnt A) s.1,yI (b+cnt A) 0 s.1):=by
   rw [e,yQh,Nat.zero_add]
  have hr:vC b (vY A)++vC (b+cnt A) s.1=vC b (vY (A++ [s])):=by
   rw [xPj,yXu,zMt]
  have hc:=yUs h
  have hcs:cnt (A++ [s])≤cnt S:=by rw [e,yY2,zAu,cnt];omega
  have ih:=yZw h hl B (A++ [s]) (by rw [e];simp)
  rw [List.length_append,List.length_singleton] at ih
  rw [yGo];unfold zI8;rw [vO,decide_eq_true (by omega:(A.length:Int)<(S.length:Int)),decide_eq_true (by omega:(0:Int)≤(A.length:Int)),Bool.and_self,cond_true,cond_true,Int.toNat_natCast,hg,Option.bind_some,hr,yT (by rw [kZ,zMt];omega),cond_true,yW (by omega)]
  exact ih
theorem yIu {n b:Nat} {S:List Sg} (h:yX n b S) (hl:S.length≤64):zRj (fl n b S [])=some (vC b (vY S)):=by
 unfold zRj zY0
 have:=yZw h hl S [] rfl
 have e:zGi 0 [] (wB 0 b S)=some (vC b (vY S)):=this
 rw [yGy h hl,Option.bind_some,e]
 rfl
theorem yXs {a:Int} {l:List (Int×List Int)} {i:Nat} {R:List (List Int)} (h:R.length≤10000):zRk (a,l,yI i 0 R)=some ((enc i R).length:Int):=by
 unfold zRk zYl
 simp only [vN]
 by_cases h0:R= []
 ·subst h0;rfl
 ·have hp:=List.length_pos_iff.2 h0
  have:((R.length:Int)==0)=false:=by rw [beq_eq_false_iff_ne];omega
  rw [this,show IntKind.wrap .i64 ((R.length:Int)-1)=((R.length-1:Nat):Int) by rw [yQ (by omega) (by omega)];omega]
  simp only [cond_false]
  rw [yYs (by rw [vN];omega) 0,yY5 hp]
  rfl
theorem yVw (n b:Nat) (A B:List Sg) (s:Sg) (t:List Int):∃x,at? (fl n b (A++s::B) t) (A.length:Int)=some x∧x.1=nm (n+A.length):=by
 induction A generalizing n b with
 |nil=>exact ⟨_,rfl,rfl⟩
 |cons a A ih=>
  obtain ⟨x,h1,h2⟩:=ih (n+1) (b+a.1.length)
  refine ⟨x, ?_,by rw [h2,List.length_cons];congr 1;omega⟩
  rw [List.cons_append,fl,List.length_cons]
  have hl:A.length<(fl (n+1) (b+a.1.length) (A++s::B) t).length:=by rw [zFs,List.length_append,List.length_cons];omega
  rw [wY hl] at h1
  rw [wY (by rw [List.length_cons];omega),←h1]
  rfl
theorem xOz:zIa []=some []:=by
 have:=yGy (n:=1) (b:=1) (S:= []) trivial (by simp)
 have this:vD []=some []:=this
 unfold zIa zSo
 rw [this];rfl
theorem xRu {m:FL} {n b:Nat} {A:List Sg} {s:Sg} {G:List SG} (h:Log m n b (A++ [s]) G):zIa (fl n b (A++ [s]) [])=some (fl n b (A++ [(s.1,(enc (b+cnt A) s.1).length)]) []):=by
 have hl:=h.len
 have hl1:A.length+1≤64:=by rw [List.length_append,List.length_singleton] at hl;exact hl
 have hsl:(wB 0 b (A++ [s])).length=A.length+1:=by rw [vO];simp
 have hg:(wB 0 b (A++ [s]))[A.length]? =some ((A.length:Int),vC (b+cnt A) s.1,yI (b+cnt A) 0 s.1):=by rw [yQh,Nat.zero_add]
 obtain ⟨x,hx1,hx2⟩:=yVw n b A [] s []
 obtain ⟨m',e,hm⟩:=yIa h.st (nm (n+A.length))
 have hs:=(h.synced hm).2
 unfold zIa zSo
 rw [yGy h.fine hl,Option.bind_some,hsl,yL6 (by omega),decide_eq_true (by omega:((A.length+1:Nat):Int)>0),cond_true,decide_eq_true (by omega:(0:Int)≤(A.length:Int)),decide_eq_true (by omega:(A.length:Int)<((A.length+1:Nat):Int)),Bool.and_self,cond_true,Int.toNat_natCast,hg,Option.bind_some,hx1,Option.bind_some,hx2,xKa h.st,Option.bind_some,hs]
theorem xAr {n b:Nat} {S:List Sg} {t:List Int} (hF:yX n b S) (hl:S.length≤64) (hS:S≠ []) (w:Int×List (Int×List Int)×List Int):∀(r i:Nat),i+r=S.length→
 zGb (fl n b S t) ((n+S.length-1:Nat):Int) (i:Int) w ((fl n b S t).take i)=some (((n+S.length-1:Nat):Int),w,fl n b S t)
 |0,i,e=>by
  have hL:=zFs n b S t
  rw [yF6];unfold zJj;rw [decide_eq_false (by omega:¬(i:Int)<((fl n b S t).length:Int)),cond_false,List.take_of_length_le (by omega)]
 |r+1,i,e=>by
  have hL:=zFs n b S t
  have hi:i<(fl n b S t).length:=by omega
  have hr:=hF.range.resolve_left hS
  obtain ⟨k,h1,h2,h3⟩:=yPj (List.getElem_mem hi)
  rw [yF6];unfold zJj;rw [decide_eq_true (by omega:(i:Int)<((fl n b S t).length:Int)),cond_true,wY hi,Option.bind_some,h3,yG0 (by omega),Option.bind_some,decide_eq_true (by omega:(k:Int)≤((n+S.length-1:Nat):Int)),cond_true,Option.bind_some,yT (by simp;omega),cond_true,yW (by omega),←zQg hi]
  exact xAr hF hl hS w r (i+1) (by omega)
theorem xP8:zH8 []=some []:=by
 have:=yGy (n:=1) (b:=1) (S:= []) trivial (by simp)
 have this:vD []=some []:=this
 unfold zH8 zTi
 rw [this];rfl
theorem xRv {m:FL} {n b:Nat} {A:List Sg} {s:Sg} {t:List Int} (h:St m (fl n b (A++ [s]) t)) (hF:yX n b (A++ [s])) (ht:yE8 t) (htop:t≠ []→b+cnt (A++ [s])<18446744073709551616):
 zH8 (fl n b (A++ [s]) t)=some (fl n b (A++ [(s.1,min s.2 (enc (b+cnt A) s.1).length)]) []):=by
 have hl:=h.len
 rw [zFs] at hl
 have hl1:A.length+1≤64:=by rw [List.length_append,List.length_singleton] at hl;exact hl
 obtain ⟨_,_,hFs⟩:=yX.app hF (by simp)
 obtain ⟨q1,q2,q3,q4,_⟩:=hFs
 have hrl:=zK2 (b+cnt A) s.1
 have hsl:(wB 0 b (A++ [s])).length=A.length+1:=by rw [vO];simp
 have hg:(wB 0 b (A++ [s]))[A.length]? =some ((A.length:Int),vC (b+cnt A) s.1,yI (b+cnt A) 0 s.1):=by rw [yQh,Nat.zero_add]
 obtain ⟨x,hx1,hx2⟩:=yVw n b A [] s t
 have hloop:=xAr (t:=t) hF hl (by simp) ((A.length:Int),vC (b+cnt A) s.1,yI (b+cnt A) 0 s.1) (A++ [s]).length 0 (by omega)
 have hn:n+(A++ [s]).length-1=n+A.length:=by simp
 rw [hn,List.take_zero] at hloop
 have hloop:zGb (fl n b (A++ [s]) t) ((n+A.length:Nat):Int) 0 ((A.length:Int),vC (b+cnt A) s.1,yI (b+cnt A) 0 s.1) []=_:=hloop
 have hle:(enc (b+cnt A) s.1).length≤(enc (b+cnt A) s.1++t).length:=by rw [List.length_append];omega
 have hz:(((A.length+1:Nat):Int)==0)=false:=by rw [beq_eq_false_iff_ne];omega
 unfold zH8 zTi
 rw [xL6 hF hl ht htop,Option.bind_some,hsl,hz,cond_false,yL6 (by omega),decide_eq_true (by omega:(0:Int)≤(A.length:Int)),decide_eq_true (by omega:(A.length:Int)<((A.length+1:Nat):Int)),Bool.and_self,cond_true,Int.toNat_natCast,hg,Option.bind_some,hx1,Option.bind_some,hx2,yG0 (by omega),Option.bind_some,hloop,Option.bind_some,zXi (by omega),Option.bind_some,yXs (by omega),Option.bind_some,xD4 h,Option.bind_some,yEq h hle List.take_left]
theorem xTo (L:FL) (hl:L.length≤64):zVx L L=some true:=by
 have key:=zTm (S:=Unit) L.length (fun i _=>zKq L L (i:Int)) (fun _ _=>True) (fun r=>r=some (.inl ()))
  (fun i s hi hs=>by
   try dsimp only
   refine .inl ⟨(), ?_,trivial⟩
   rw [yGp];unfold zIw;rw [decide_eq_true (by omega:(i:Int)<(L.length:Int)),wY hi,yW (by omega)]
   simp)
  (fun s hs=>by
   try dsimp only
   rw [yGp];unfold zIw;rw [decide_eq_false (by omega:¬(L.length:Int)<(L.length:Int)),cond_false]) 0 () (Nat.zero_le _) trivial
 simp only [show ((0:Nat):Int)=0 from rfl] at key
 unfold zVx zY2
 rw [show ((L.length:Int) !=(L.length:Int))=false by simp,cond_false,key]
 rfl
theorem xCi {m:FL} {n b:Nat} {S:List Sg} {G:List SG} (h:Log m n b S G) (f l:Int) (D:FL):∀(r j:Nat),j+r=cnt S→zGx (true,G.map some) f l (j:Int) () (vC b (vY S)) D=some (.inl ((true,G.map some),f,l,(),D))
 |0,j,e=>by
  rw [yLu];unfold zOj;rw [kZ,zMt,decide_eq_false (by omega:¬(j:Int)<(cnt S:Int)),cond_false]
 |r+1,j,e=>by
  have hrl:=zMt S
  have hc:=yUs h.fine
  have hl:=h.len
  have hg:(vC b (vY S))[j]? =some (((b+j:Nat):Int),(vY S)[j]'(by omega)):=by
   rw [List.getElem?_eq_getElem (by rw [kZ];omega),zW9 b _ j (by omega)]
  have hrow:nth (vY S) (b+j-b) []=(vY S)[j]'(by omega):=by
   rw [show b+j-b=j by omega,yH5 (by omega)]
  rw [yLu];unfold zOj;rw [kZ,zMt,decide_eq_true (by omega:(j:Int)<(cnt S:Int)),decide_eq_true (by omega:(0:Int)≤(j:Int)),Bool.and_self,cond_true,cond_true,Int.toNat_natCast,hg,Option.bind_some,xUs h (by omega) (by omega),hrow,Option.bind_some]
  simp only [Bool.not_true,cond_false,cond_true,Option.bind_some]
  rw [show (xZ (vY S)[j]==xZ (vY S)[j])=true by simp,yW (by omega)]
  simp only [Bool.not_true,cond_false]
  exact xCi h f l D r (j+1) (by omega)
theorem xAb {m:FL} {n b:Nat} {S:List Sg} {G:List SG} (h:Log m n b S G):∃m',yD5 (true,G.map some) m (fl n b S [])=some (true,m')∧Log m' n b S G:=by
 obtain ⟨m',e,hm⟩:=yZq h.st
 have hL:Log m' n b S G:=⟨hm,h.fine,h.gr⟩
 refine ⟨m', ?_,hL⟩
 have hl:=h.len
 have hfl:=zFs n b S []
 have hc:=yUs h.fine
 have hrl:=zMt S
 have hfirst:=xSr h.fine h.gr hl
 have hlast:=zXv h.fine h.gr hl
 have hnone0:kJ (true,G.map some) 0=some ([],false):=by
  rcases h.fine.range with hr|hr
  ·subst hr
   exact yV6 (i:=0) h (by decide) (by simp only [cnt];omega)
  ·exact yV6 (i:=0) h (by decide) (.inl (by omega))
 unfold yD5 yHo
 rw [e,Option.bind_some,xTo _ (by simp only;omega),Option.bind_some]
 simp only [Bool.not_true,cond_false]
 rw [yIu h.fine hl,Option.bind_some,kZ,hrl]
 by_cases hz:cnt S=0
 ·have hloop:=xCi h 0 0 m' 0 0 (by omega)
  have hloop:zGx (true,G.map some) 0 0 0 () (vC b (vY S)) m'=some (.inl ((true,G.map some),0,0,(),m')):=hloop
  have hnone1:kJ (true,G.map some) 1=some ([],false):=yV6 (i:=1) h (by decide) (by omega)
  rw [if_pos hz] at hfirst hlast
  rw [decide_eq_false (by omega:¬(cnt S:Int)>0),cond_false,hloop]
  simp only [Option.bind_some,Sum.elim_inl]
  rw [show IntKind.wrap .u64 ((0:Int)+1)=1 from rfl,hnone1,hnone0,hfirst,hlast]
  rfl
 ·rw [if_neg hz] at hfirst hlast
  have hr:=h.fine.range.resolve_left (fun e=>hz (by rw [e];rfl))
  have hg0:(vC b (vY S))[0]? =some ((b:Int),(vY S)[0]'(by omega)):=by
   rw [List.getElem?_eq_getElem (by rw [kZ];omega),zW9 b _ 0 (by omega)]
   rfl
  have hg1:(vC b (vY S))[cnt S-1]? =some (((b+cnt S-1:Nat):Int),(vY S)[cnt S-1]'(by omega)):=by
   rw [List.getElem?_eq_getElem (by rw [kZ];omega),zW9 b _ (cnt S-1) (by omega),show b+(cnt S-1)=b+cnt S-1 by omega]
  have hw:IntKind.wrap .i64 ((cnt S:Int)-1)=((cnt S-1:Nat):Int):=by rw [yQ (by omega) (by omega)];omega
  have hloop:=xCi h (b:Int) ((b+cnt S-1:Nat):Int) m' (cnt S) 0 (by omega)
  have hloop:zGx (true,G.map some) (b:Int) ((b+cnt S-1:Nat):Int) 0 () (vC b (vY S)) m'=some (.inl ((true,G.map some),(b:Int),((b+cnt S-1:Nat):Int),(),m')):=hloop
  have hmore:kJ (true,G.map some) (IntKind.wrap .u64 (((b+cnt S-1:Nat):Int)+1))=some ([],false):=by
   by_cases htop:b+cnt S=18446744073709551616
   ·rw [show ((b+cnt S-1:Nat):Int)+1=18446744073709551616 by omega,show IntKind.wrap .u64 18446744073709551616=0 by decide,hnone0]
   ·rw [zBo (by omega) (by omega),show ((b+cnt S-1:Nat):Int)+1=((b+cnt S:Nat):Int) by omega]
    exact yV6 h (by omega) (.inr (Nat.le_refl _))
  rw [decide_eq_true (by omega:(cnt S:Int)>0),cond_true,show decide ((0:Int)≤0)=true from rfl,Bool.and_self,cond_true,show Int.toNat 0=0 from rfl,hg0,Option.bind_some,hw,decide_eq_true (by omega:(0:Int)≤((cnt S-1:Nat):Int)),decide_eq_true (by omega:((cnt S-1:Nat):Int)<(cnt S:Int)),Bool.and_self,cond_true,Int.toNat_natCast,hg1,Option.bind_some,hloop]
  simp only [Option.bind_some,Sum.elim_inl]
  rw [hmore,hnone0,hfirst,hlast]
  simp
end Go.Proofs.YtlhifcknhgmidaaGreatDoor.gg
