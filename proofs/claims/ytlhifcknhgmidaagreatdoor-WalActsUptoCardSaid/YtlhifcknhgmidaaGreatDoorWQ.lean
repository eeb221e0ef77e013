/- A part of our own proof. -/
import Derived.Test.YtlhifcknhgmidaaGreatDoorWP
open Go Go.GG Go.Proofs
set_option linter.unusedVariables false
namespace Go.Proofs.YtlhifcknhgmidaaGreatDoor.gg
theorem xPo {m:FL} {n b:Nat} {S:List Sg} {G:List SG} (h:Log m n b S G) (hc:cnt S=0) (i:Nat):fl n i S []=fl n b S []:=by
 rcases List.eq_nil_or_concat S with rfl|⟨A,s,rfl⟩
 ·rfl
 ·rw [List.concat_eq_append] at*
  have hA:A= []:=by
   cases A with
   |nil=>rfl
   |cons a A=>
    have:=(yX.app h.fine (by simp)).2.1 a (by simp)
    rw [List.cons_append,cnt] at hc
    have:=List.length_pos_iff.2 this
    omega
  subst hA
  have hs:s.1= []:=by
   rw [List.nil_append,cnt,cnt] at hc
   exact List.length_eq_zero_iff.1 (by omega)
  obtain ⟨s1,s2⟩:=s
  simp only at hs
  subst hs
  rfl
theorem xH5 {i:Nat} {d:List Int} (hi:i<18446744073709551616) (h:ROk d):zJr 1 (yL i++d)=some (rb i d):=by
 have:=zIj hi h
 rw [xLf yQy (yCl h) (by omega)]
 rfl
theorem xQh {L:FL} {n b:Nat} {S:List Sg} {i:Nat} {d:List Int} (h:yX n b S) (hl:S.length≤64):zHc L ((i:Int),d) (vC b (vY S))=some (L,(bif decide (cnt S=0) then false else ((i:Int) !=IntKind.wrap .u64 (((b+cnt S-1:Nat):Int)+1))),((i:Int),d)):=by
 have hrl:=zMt S
 have hc:=yUs h
 unfold zHc zL9
 rw [kZ,hrl]
 by_cases hz:cnt S=0
 ·rw [decide_eq_false (by omega:¬(cnt S:Int)>0),decide_eq_true hz];rfl
 ·have hg1:(vC b (vY S))[cnt S-1]? =some (((b+cnt S-1:Nat):Int),(vY S)[cnt S-1]'(by omega)):=by
   rw [List.getElem?_eq_getElem (by rw [kZ];omega),zW9 b _ (cnt S-1) (by omega),show b+(cnt S-1)=b+cnt S-1 by omega]
  have hw:IntKind.wrap .i64 ((cnt S:Int)-1)=((cnt S-1:Nat):Int):=by rw [yQ (by omega) (by omega)];omega
  rw [decide_eq_true (by omega:(cnt S:Int)>0),decide_eq_false hz,cond_true,hw,decide_eq_true (by omega:(0:Int)≤((cnt S-1:Nat):Int)),decide_eq_true (by omega:((cnt S-1:Nat):Int)<(cnt S:Int)),Bool.and_self,cond_true,Int.toNat_natCast,hg1]
  rfl
theorem yX2 {n b:Nat} {S:List Sg} {i:Nat} {d:List Int} (h:yX n b S) (hl:S.length≤64) (h1:1≤i) (hd:d.length≤4096) (hgap:(bif decide (cnt S=0) then false else ((i:Int) !=IntKind.wrap .u64 (((b+cnt S-1:Nat):Int)+1)))=false):
 wH (fl n b S []) ((i:Int),d)=((zA8 (fl n b S []) 0 ((i:Int),d) (wB 0 b S)).bind fun o8=>((vZ o8.1 o8.2.1 o8.2.2.1 o8.2.2.2).bind fun o23=>Sum.elim (fun a24=>((jP a24.2.2.1).bind fun r26=>(bif yK ((r26++a24.2.2.2)).length 1 then ((zJr 1 (r26++a24.2.2.2)).bind fun r27=>((zFn a24.2.1).bind fun r28=>((zEg a24.1 r28 r27).bind fun r29=>(bif (r29.2 !=0) then some (a24.1,2) else some (r29.1,0))))) else none))) (fun b25=>some b25) o23)):=by
 have i0:((i:Int)==0)=false:=by rw [beq_eq_false_iff_ne];omega
 unfold wH zFd
 rw [yIu h hl,Option.bind_some,i0,cond_false,decide_eq_false (by omega:¬(d.length:Int)>4096),cond_false,xQh h hl,Option.bind_some,hgap,cond_false,yGy h hl,Option.bind_some]
theorem xOq {i:Nat} {d:List Int} {n b:Nat} (hd:ROk d) (h1:1≤i) (hi2:i<18446744073709551616):wH [] ((i:Int),d)=some (fl 1 i [([d],0)] [],0):=by
 have hrb:=zZg hi2 hd
 have hpl:=zIj hi2 hd
 have hw1:=zXi (n:=1) (by decide)
 simp only [show ((1:Nat):Int)=1 from rfl] at hw1
 have hpre:=yX2 (n:=1) (b:=1) (S:= []) (i:=i) (d:=d) trivial (by simp) h1 hd.len rfl
 have hpre:wH [] ((i:Int),d)=_:=hpre
 have ea:zPi [] (nm 1) []=([(nm 1,([],0))],0):=by
  rw [xCv (L:= []) (k:=nm 1) (.of List.Pairwise.nil) (.of (List.pairwise_singleton _ _)) (xHe 1)];rfl
 obtain ⟨m1,e1,hm1⟩:=zH6 xKf (nm 1) (b:= []) (by simp)
 rw [ea] at hm1
 have h0:Log m1 1 i [([],0)] [(1,0, [], [])]:=⟨hm1,⟨⟨by decide,by decide⟩,⟨fun x hx=>by simp at hx,h1,by simp;omega⟩,⟨by simp [enc],hi2⟩,by simp,fun e=>absurd rfl e,trivial⟩, .inr ⟨[],([],0),0,rfl,rfl,fun e=>absurd rfl e⟩⟩
 obtain ⟨m2,e2,hm2⟩:=zH6 hm1 (nm 1) (b:=rb i d) (by omega)
 obtain ⟨ea2,_⟩:=Log.more (A:= []) (s:=([],0)) h0 hd rfl hi2 (by simp [enc]) hm2
 have ea2:zPi [(nm 1,([],0))] (nm 1) (rb i d)=(fl 1 i [([d],0)] [],0):=ea2
 have p38:vZ [] 0 ((i:Int),d) []=some (.inl ([(nm 1,([],0))],1,((i:Int),d))):=by
  unfold vZ zCc
  rw [show ((([]:RS).length:Int)==0)=true from rfl,cond_true,show decide ((0:Int)>0)=false from rfl,cond_false,show IntKind.wrap .i64 (0+1)=1 from rfl,show decide ((1:Int)>99999999)=false from rfl,cond_false,hw1,Option.bind_some,zUj xKf _ (by simp),Option.bind_some,ea]
  rfl
 rw [hpre]
 have p32:zA8 (fl 1 1 [] []) 0 ((i:Int),d) (wB 0 1 [])=some ([],0,((i:Int),d), []):=rfl
 rw [p32]
 simp only [Option.bind_some]
 rw [p38]
 simp only [Option.bind_some,Sum.elim_inl]
 rw [zG6 i hi2,Option.bind_some,yT (by omega),cond_true,xH5 hi2 hd,Option.bind_some,hw1,Option.bind_some,zUj hm1 _ (by omega),Option.bind_some,ea2]
 rfl
theorem xQf {n b:Nat} {A:List Sg} {s:Sg} {x:Int×List Int} (h:yX n b (A++ [s])) (hl:(A++ [s]).length≤64):zA8 (fl n b (A++ [s]) []) 0 x (wB 0 b (A++ [s]))=some (fl n b (A++ [s]) [],((n+A.length:Nat):Int),x,wB 0 b (A++ [s])):=by
 have hl1:A.length+1≤64:=by rw [List.length_append,List.length_singleton] at hl;exact hl
 obtain ⟨_,_,hFs⟩:=yX.app h (by simp)
 have q1:=hFs.1
 have hsl:(wB 0 b (A++ [s])).length=A.length+1:=by rw [vO];simp
 have hg:=zL0 (b:=b) (A:=A) (B:= []) (s:=s)
 obtain ⟨y,hx1,hx2⟩:=yVw n b A [] s []
 unfold zA8 zMc
 rw [hsl,yL6 (by omega),decide_eq_true (by omega:((A.length+1:Nat):Int)>0),cond_true,decide_eq_true (by omega:(0:Int)≤(A.length:Int)),decide_eq_true (by omega:(A.length:Int)<((A.length+1:Nat):Int)),Bool.and_self,cond_true,Int.toNat_natCast,hg,Option.bind_some,hx1,Option.bind_some,hx2,yG0 (by omega)]
 rfl
theorem xQj {b i:Nat} {S:List Sg} (hi:i=b+cnt S) (h1:1≤b) (hi2:i<18446744073709551616):(bif decide (cnt S=0) then false else ((i:Int) !=IntKind.wrap .u64 (((b+cnt S-1:Nat):Int)+1)))=false:=by
 cases decide (cnt S=0) with
 |true=>rfl
 |false=>
  rw [cond_false,zBo (by omega) (by omega),show ((b+cnt S-1:Nat):Int)+1=(i:Int) by omega]
  simp
theorem xO0 {m:FL} {n b:Nat} {A:List Sg} {s:Sg} {G:List SG} {d:List Int} {i:Nat} (h:Log m n b (A++ [s]) G) (hd:ROk d) (hi:i=b+cnt (A++ [s])) (hi2:i<18446744073709551616) (hs:(enc (b+cnt A) s.1).length≤4096):
 wH (fl n b (A++ [s]) []) ((i:Int),d)=some (fl n b (A++ [(s.1++ [d],s.2)]) [],0):=by
 have hl:=h.len
 have hl1:A.length+1≤64:=by rw [List.length_append,List.length_singleton] at hl;exact hl
 have hrb:=zZg hi2 hd
 have hpl:=zIj hi2 hd
 obtain ⟨p1,p2,p3,p4,p5,p6,p7,p8⟩:=h.parts
 have hrl:=zK2 (b+cnt A) s.1
 obtain ⟨m2,e2,hm2⟩:=zH6 h.st (nm (n+A.length)) (b:=rb i d) (by omega)
 obtain ⟨ea2,_⟩:=h.more hd hi hi2 hs hm2
 have hsl:(wB 0 b (A++ [s])).length=A.length+1:=by rw [vO];simp
 have hg:=zL0 (b:=b) (A:=A) (B:= []) (s:=s)
 have hz:(((A.length+1:Nat):Int)==0)=false:=by rw [beq_eq_false_iff_ne];omega
 have p38:vZ (fl n b (A++ [s]) []) ((n+A.length:Nat):Int) ((i:Int),d) (wB 0 b (A++ [s]))=some (.inl (fl n b (A++ [s]) [],((n+A.length:Nat):Int),((i:Int),d))):=by
  unfold vZ zCc
  rw [hsl,hz,cond_false,yL6 (by omega),decide_eq_true (by omega:(0:Int)≤(A.length:Int)),decide_eq_true (by omega:(A.length:Int)<((A.length+1:Nat):Int)),Bool.and_self,cond_true,Int.toNat_natCast,hg,Option.bind_some,yXs (by omega),Option.bind_some,decide_eq_false (by omega:¬((enc (b+cnt A) s.1).length:Int)>4096),cond_false]
 rw [yX2 h.fine hl (by omega) hd.len (xQj hi p8 hi2),xQf h.fine hl]
 simp only [Option.bind_some]
 rw [p38]
 simp only [Option.bind_some,Sum.elim_inl]
 rw [zG6 i hi2,Option.bind_some,yT (by omega),cond_true,xH5 hi2 hd,Option.bind_some,zXi (by omega),Option.bind_some,zUj h.st _ (by omega),Option.bind_some,ea2]
 rfl
theorem xQ1 {m:FL} {n b:Nat} {A:List Sg} {s:Sg} {G:List SG} {d:List Int} {i:Nat} (h:Log m n b (A++ [s]) G) (hd:ROk d) (hi:i=b+cnt (A++ [s])) (hi2:i<18446744073709551616) (hs:4096<(enc (b+cnt A) s.1).length):
 if n+A.length+1>99999999∨(A++ [s]).length≥64 then wH (fl n b (A++ [s]) []) ((i:Int),d)=some (fl n b (A++ [(s.1,(enc (b+cnt A) s.1).length)]) [],2)
 else wH (fl n b (A++ [s]) []) ((i:Int),d)=some (fl n b (A++ [(s.1,(enc (b+cnt A) s.1).length)]++ [([d],0)]) [],0):=by
 have hl:=h.len
 have hl1:A.length+1≤64:=by rw [List.length_append,List.length_singleton] at hl;exact hl
 have hrb:=zZg hi2 hd
 have hpl:=zIj hi2 hd
 obtain ⟨p1,p2,p3,p4,p5,p6,p7,p8⟩:=h.parts
 have hrl:=zK2 (b+cnt A) s.1
 obtain ⟨m1,e1,hm1⟩:=yIa h.st (nm (n+A.length))
 obtain ⟨h1,es⟩:=h.synced hm1
 have hsl:(wB 0 b (A++ [s])).length=A.length+1:=by rw [vO];simp
 have hg:=zL0 (b:=b) (A:=A) (B:= []) (s:=s)
 have hz:(((A.length+1:Nat):Int)==0)=false:=by rw [beq_eq_false_iff_ne];omega
 have wp:IntKind.wrap .i64 (((n+A.length:Nat):Int)+1)=((n+A.length+1:Nat):Int):=yW (by omega)
 have hcount:b+cnt (A++ [(s.1,(enc (b+cnt A) s.1).length)])=i:=by rw [hi,zAu,zAu,cnt,cnt,cnt,cnt]
 have hpre:=yX2 h.fine hl (by omega) hd.len (xQj hi p8 hi2)
 rw [xQf h.fine hl] at hpre
 simp only [Option.bind_some] at hpre
 have head:∀Y,(bif decide (((n+A.length+1:Nat):Int)>99999999) then some (.inr (fl n b (A++ [(s.1,(enc (b+cnt A) s.1).length)]) [],2)) else ((zFn ((n+A.length+1:Nat):Int)).bind fun r19=>((zEg (fl n b (A++ [(s.1,(enc (b+cnt A) s.1).length)]) []) r19 []).bind fun r20=>(bif (r20.2 !=0) then some (.inr (r20.1,2)) else some (.inl (r20.1,((n+A.length+1:Nat):Int),((i:Int),d)))))))=Y→
  vZ (fl n b (A++ [s]) []) ((n+A.length:Nat):Int) ((i:Int),d) (wB 0 b (A++ [s]))=Y:=by
  intro Y hY
  unfold vZ zCc
  rw [hsl,hz,cond_false,yL6 (by omega),decide_eq_true (by omega:(0:Int)≤(A.length:Int)),decide_eq_true (by omega:(A.length:Int)<((A.length+1:Nat):Int)),Bool.and_self,cond_true,Int.toNat_natCast,hg,Option.bind_some,yXs (by omega),Option.bind_some,decide_eq_true (by omega:((enc (b+cnt A) s.1).length:Int)>4096),cond_true,decide_eq_true (by omega:((n+A.length:Nat):Int)>0),cond_true,zXi (by omega),Option.bind_some,xKa h.st,Option.bind_some,es,wp]
  exact hY
 by_cases hbig:n+A.length+1>99999999
 ·rw [if_pos (.inl hbig),hpre,head _ (by rw [decide_eq_true (by omega:((n+A.length+1:Nat):Int)>99999999),cond_true])]
  rfl
 ·obtain ⟨m2,e2,hm2⟩:=zH6 h1.st (nm (n+A.length+1)) (b:= []) (by simp)
  obtain ⟨ea,hL⟩:=h1.opened (m':=m2) hs rfl (by omega) (by omega)
  by_cases h64:(A++ [s]).length≥64
  ·have h64':(A++ [(s.1,(enc (b+cnt A) s.1).length)]).length≥64:=by rw [List.length_append,List.length_singleton] at h64 ⊢;exact h64
   rw [if_pos h64'] at ea
   rw [if_pos (.inr h64),hpre,head _ (by rw [decide_eq_false (by omega:¬((n+A.length+1:Nat):Int)>99999999),cond_false,zXi (by omega),Option.bind_some,zUj h1.st _ (by simp),Option.bind_some,ea,show ((2:Int) !=0)=true from rfl,cond_true])]
   rfl
  ·rw [if_neg (by omega)]
   have h64':¬(A++ [(s.1,(enc (b+cnt A) s.1).length)]).length≥64:=by rw [List.length_append,List.length_singleton] at h64 ⊢;exact h64
   have hL2:=hL h64' hm2
   rw [if_neg h64'] at ea
   have hn2:n+A.length+1=n+(A++ [(s.1,(enc (b+cnt A) s.1).length)]).length:=by simp;omega
   obtain ⟨m3,e3,hm3⟩:=zH6 hL2.st (nm (n+A.length+1)) (b:=rb i d) (by omega)
   rw [hn2] at hm3
   obtain ⟨ea3,_⟩:=hL2.more hd (by rw [zAu,show cnt [(([]:List (List Int)),0)]=0 from rfl];omega) hi2 (by simp [enc]) hm3
   rw [←hn2] at ea3
   rw [hpre,head _ (by rw [decide_eq_false (by omega:¬((n+A.length+1:Nat):Int)>99999999),cond_false,zXi (by omega),Option.bind_some,zUj h1.st _ (by simp),Option.bind_some,ea,show ((0:Int) !=0)=false from rfl,cond_false])]
   simp only [Option.bind_some,Sum.elim_inl]
   rw [zG6 i hi2,Option.bind_some,yT (by omega),cond_true,xH5 hi2 hd,Option.bind_some,zXi (by omega),Option.bind_some,zUj hL2.st _ (by omega),Option.bind_some,ea3]
   rfl
end Go.Proofs.YtlhifcknhgmidaaGreatDoor.gg
