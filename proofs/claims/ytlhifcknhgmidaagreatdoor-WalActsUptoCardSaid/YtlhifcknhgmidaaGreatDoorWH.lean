/- A part of our own proof. -/
import Derived.Test.YtlhifcknhgmidaaGreatDoorWG
open Go Go.GG Go.Proofs
set_option linter.unusedVariables false
namespace Go.Proofs.YtlhifcknhgmidaaGreatDoor.gg
theorem xR4 {m F:FL} {k:Str} {v:FT} {c:List Int} (h:St m (F++ [(k,v)])) (hk:zOs k=true) (hl:v.1.length+c.length≤65536):zPi (F++ [(k,v)]) k c=(F++ [(k,(v.1++c,v.2))],0):=by
 unfold zPi
 rw [hk,yDm h.rel.srt]
 simp only [cond_true]
 rw [if_neg (by omega),yYh h.rel]
theorem xCv {L:FL} {k:Str} (hL:jZ L) (h:jZ (L++ [(k,(([]:List Int),(0:Int)))])) (hk:zOs k=true):zPi L k []=if L.length≥64 then (L,2) else (L++ [(k,([],0))],0):=by
 unfold zPi
 rw [hk,xSk h]
 simp only [cond_true]
 by_cases hl:L.length≥64
 ·rw [if_pos (.inl hl),if_pos hl]
 ·rw [if_neg (by simp;omega),if_neg hl,xTx hL h]
theorem xNo {i:Nat} (hi:i<18446744073709551616):zGv [] (i:Int)=some (yL i):=by
 rw [xAv [] i hi (by simp)];rfl
theorem xCz {i:Nat} {d:List Int} (hi:i<18446744073709551616) (h:ROk d):zTz 1 (yL i++d)=some (rb i d,0):=by
 have:=zIj hi h
 rw [xUn yQy (yCl h) (by omega),if_neg (by omega)]
 rfl
theorem xUi (i:Nat) (d:List Int):enc i [d]=rb i d:=by rw [enc,enc,List.append_nil]
theorem yZd (i:Nat) (R:List (List Int)) (d:List Int):enc i (R++ [d])=enc i R++rb (i+R.length) d:=by rw [yB7,xUi]
theorem xPr (i:Nat) (R:List (List Int)) (d:List Int):yI i 0 (R++ [d])=yI i 0 R++ [(((enc i R).length+(rb (i+R.length) d).length:Nat):Int)]:=by
 rw [yJw,Nat.zero_add];rfl
theorem Log.more {m m':FL} {n b:Nat} {A:List Sg} {s:Sg} {G:List SG} {d:List Int} {i:Nat} (h:Log m n b (A++ [s]) G) (hd:ROk d) (hi:i=b+cnt (A++ [s])) (hi2:i<18446744073709551616) (hs:(enc (b+cnt A) s.1).length≤4096)
 (hm:St m' (zPi (fl n b (A++ [s]) []) (nm (n+A.length)) (rb i d)).1):
 zPi (fl n b (A++ [s]) []) (nm (n+A.length)) (rb i d)=(fl n b (A++ [(s.1++ [d],s.2)]) [],0)∧Log m' n b (A++ [(s.1++ [d],s.2)]) (xO n b A++ [(((n+A.length:Nat):Int),((b+cnt A:Nat):Int),yI (b+cnt A) 0 (s.1++ [d]),s.1++ [d])]):=by
 obtain ⟨p1,p2,p3,p4,p5,p6,_⟩:=h.parts
 have hrb:=zZg hi2 hd
 have hc:i=b+cnt A+s.1.length:=by rw [hi,zAu];simp [cnt];omega
 have e:zPi (fl n b (A++ [s]) []) (nm (n+A.length)) (rb i d)=(fl n b (A++ [(s.1++ [d],s.2)]) [],0):=by
  have hst:=h.st
  rw [zNl] at hst
  rw [zNl,xR4 hst (xHe _) (by show (enc (b+cnt A) s.1).length+_≤_;omega),zNl,yZd,hc]
 rw [e] at hm
 refine ⟨e,hm,yX.change h.fine ⟨?_,p3.low, ?_⟩ ?_ ?_, .inr ⟨A,_,_,rfl,rfl,fun _=>rfl⟩⟩
 ·intro x hx
  rcases List.mem_append.1 hx with hx|hx
  ·exact p3.ok x hx
  ·rw [List.mem_singleton.1 hx];exact hd
 ·rw [List.length_append,List.length_singleton];omega
 ·show (enc (b+cnt A) (s.1++ [d])).length≤9000
  rw [yZd,List.length_append,←hc];omega
 ·show s.2≤(enc (b+cnt A) (s.1++ [d])).length
  rw [yZd,List.length_append];omega
theorem Log.opened {m m':FL} {n b:Nat} {A:List Sg} {s:Sg} {G:List SG} (h:Log m n b (A++ [s]) G) (hs:4096<(enc (b+cnt A) s.1).length) (hs2:s.2=(enc (b+cnt A) s.1).length) (htop:b+cnt (A++ [s])<18446744073709551616) (hn:n+A.length+1≤99999999):
 zPi (fl n b (A++ [s]) []) (nm (n+A.length+1)) []=(if (A++ [s]).length≥64 then (fl n b (A++ [s]) [],2) else (fl n b (A++ [s]++ [([],0)]) [],0))∧
 (¬(A++ [s]).length≥64→St m' (zPi (fl n b (A++ [s]) []) (nm (n+A.length+1)) []).1→Log m' n b (A++ [s]++ [([],0)]) (G++ [(((n+A.length+1:Nat):Int),0, [], [])])):=by
 obtain ⟨p1,p2,p3,p4,p5,p6,_⟩:=h.parts
 have hc:b+cnt (A++ [s])=b+cnt A+s.1.length:=by rw [zAu];simp [cnt];omega
 have hF:yX n b (A++ [s]++ [([],0)]):=yX.push h.fine hs hs2 (by omega) hn ⟨fun x hx=>by simp at hx,by omega,by simp;omega⟩ (by simp [enc]) (by simp)
 have hfl:fl n b (A++ [s]++ [([],0)]) []=fl n b (A++ [s]) []++ [(nm (n+A.length+1),([],0))]:=by
  rw [zNl n b (A++ [s]),List.length_append,List.length_singleton,Nat.add_assoc]
  rfl
 have hsr:=yLe (t:= []) hF
 rw [hfl] at hsr
 have e:zPi (fl n b (A++ [s]) []) (nm (n+A.length+1)) []=(if (A++ [s]).length≥64 then (fl n b (A++ [s]) [],2) else (fl n b (A++ [s]++ [([],0)]) [],0)):=by
  rw [xCv (yLe h.fine) hsr (xHe _),zFs,hfl]
 refine ⟨e,fun h64 hm=> ?_⟩
 rw [e,if_neg h64] at hm
 refine ⟨hm,hF, .inr ⟨A++ [s],([],0),0,rfl, ?_,fun e=>absurd rfl e⟩⟩
 obtain ⟨f,eg,hf⟩:=h.last
 have hs1:s.1≠ []:=by
  intro e
  rw [e] at hs
  simp [enc] at hs
 rw [eg,hf hs1,zSw,List.length_append,List.length_singleton,Nat.add_assoc]
 have:kU (b+cnt A) s.1=((b+cnt A:Nat):Int):=by
  cases hq:s.1 with
  |nil=>exact absurd hq hs1
  |cons _ _=>rfl
 rw [this]
 rfl
theorem xPv (a f:Int):jA (a,(f,([], [])))=some 0:=rfl
theorem xKx {m:FL} {n b:Nat} {G:List SG} {d:List Int} {i:Nat} (h:Log m n b [] G) (hd:ROk d) (h1:1≤i) (hi2:i<18446744073709551616):
 ∃m' G',xA (m,G) ((i:Int),d)=some (0,(m',G'))∧Log m' 1 i [([d],0)] G':=by
 have hG:G= []:=List.length_eq_zero_iff.1 (by rw [h.gr.len];rfl)
 subst hG
 have hdl:=hd.len
 have hrb:=zZg hi2 hd
 have hpl:=zIj hi2 hd
 have hw1:=zO8 (n:=1) (by decide)
 simp only [show ((1:Nat):Int)=1 from rfl] at hw1
 have hst:St m []:=h.st
 obtain ⟨m1,e1,hm1⟩:=zH6 hst (nm 1) (b:= []) (by simp)
 have ea:zPi [] (nm 1) []=([(nm 1,([],0))],0):=by
  rw [xCv (L:= []) (k:=nm 1) (.of List.Pairwise.nil) (.of (List.pairwise_singleton _ _)) (xHe 1)];rfl
 rw [ea] at e1 hm1
 have h0:Log m1 1 i [([],0)] [(1,0, [], [])]:=⟨hm1,⟨⟨by decide,by decide⟩,⟨fun x hx=>by simp at hx,h1,by simp;omega⟩,⟨by simp [enc],hi2⟩,by simp,fun e=>absurd rfl e,trivial⟩, .inr ⟨[],([],0),0,rfl,rfl,fun e=>absurd rfl e⟩⟩
 obtain ⟨m2,e2,hm2⟩:=zH6 hm1 (nm 1) (b:=rb i d) (by omega)
 obtain ⟨ea2,hL⟩:=Log.more (A:= []) (s:=([],0)) h0 hd rfl hi2 (by simp [enc]) hm2
 have ea2:zPi [(nm 1,([],0))] (nm 1) (rb i d)=(fl 1 i ([]++ [([]++ [d],0)]) [],0):=ea2
 rw [ea2] at e2
 refine ⟨m2,_, ?_,hL⟩
 have hlast:=zXv h.fine h.gr (by simp)
 have hlast:zBv (true,List.map some [])=some 0:=hlast
 have i0:((i:Int)==0)=false:=by rw [beq_eq_false_iff_ne];omega
 unfold xA vR xW wR
 simp only
 rw [hlast]
 simp only [Option.bind_some,Bool.not_true,Bool.not_false,cond_false,i0]
 rw [decide_eq_false (by omega:¬(d.length:Int)>4096)]
 have b0:((0:Int) !=0)=false:=rfl
 have b1:Nat.ble ([]:List SG).length 4611686018427387904=true:=rfl
 have b2:Nat.beq ([]:List SG).length 0=true:=rfl
 simp only [b0,b1,b2,cond_true,cond_false,hw1,Option.bind_some]
 rw [e1]
 simp only [Option.bind_some,b0,cond_false]
 rw [xNo hi2,show yK (([]:List SG).length+ [((1:Int),(0:Int),([]:List Int),([]:List (List Int)))].length) 8=true from rfl]
 simp only [cond_true,Option.bind_some]
 rw [yT (by omega),xCz hi2 hd]
 simp only [cond_true,Option.bind_some]
 rw [e2]
 simp only [Option.bind_some,b0,cond_false,xPv]
 rw [show IntKind.wrap .i64 (0+((rb i d).length:Int))=((rb i d).length:Int) by rw [yQ (by omega) (by omega)];omega,show yK [((rb i d).length:Int)].length 8=true from rfl,zSu (by omega)]
 simp only [cond_true,Option.bind_some]
 rw [show yK [d].length 24=true from rfl]
 simp only [cond_true]
 simp [yI,xO,cnt]
theorem xLk {m:FL} {n b:Nat} {A:List Sg} {s:Sg} {G:List SG} {d:List Int} {i:Nat} (h:Log m n b (A++ [s]) G) (hd:ROk d) (hi:i=b+cnt (A++ [s])) (hi2:i<18446744073709551616) (hs:(enc (b+cnt A) s.1).length≤4096):
 ∃m' G',xA (m,G) ((i:Int),d)=some (0,(m',G'))∧Log m' n b (A++ [(s.1++ [d],s.2)]) G':=by
 have hdl:=hd.len
 have hrb:=zZg hi2 hd
 have hpl:=zIj hi2 hd
 have hgl:=h.glen
 have hl:=h.len
 obtain ⟨p1,p2,p3,p4,p5,p6,p7,p8⟩:=h.parts
 obtain ⟨f,eg,hf⟩:=h.last
 have hrl:=zK2 (b+cnt A) s.1
 have hc:i=b+cnt A+s.1.length:=by rw [hi,zAu];simp [cnt];omega
 obtain ⟨m2,e2,hm2⟩:=zH6 h.st (nm (n+A.length)) (b:=rb i d) (by omega)
 obtain ⟨ea2,hL⟩:=h.more hd hi hi2 hs hm2
 rw [ea2] at e2
 refine ⟨m2,_, ?_,hL⟩
 have hlast:=zXv h.fine h.gr hl
 have i0:((i:Int)==0)=false:=by rw [beq_eq_false_iff_ne];omega
 have gl:G.length=(xO n b A).length+1:=by rw [eg];simp
 have ga:G[(xO n b A).length]? =some (((n+A.length:Nat):Int),f,yI (b+cnt A) 0 s.1,s.1):=by rw [eg,yB0]
 have gs:∀y:SG,G.set (xO n b A).length y=xO n b A++ [y]:=by intro y;rw [eg,zXb]
 have b0:((0:Int) !=0)=false:=rfl
 have hz1:IntKind.wrap .i64 (((enc (b+cnt A) s.1).length:Int)+((rb i d).length:Int))=(((enc (b+cnt A) s.1).length+(rb i d).length:Nat):Int):=by rw [yQ (by omega) (by omega)];omega
 have hE:yI (b+cnt A) 0 (s.1++ [d])=yI (b+cnt A) 0 s.1++ [(((enc (b+cnt A) s.1).length+(rb i d).length:Nat):Int)]:=by rw [xPr,hc]
 have hsz:∀a g,jA (a,g,yI (b+cnt A) 0 s.1,s.1)=some ((enc (b+cnt A) s.1).length:Int):=fun a g=>yPd (by omega)
 have r1:yK (yI (b+cnt A) 0 (s.1++ [d])).length 8=true:=yT (by rw [vN];simp;omega)
 have r2:yK (s.1++ [d]).length 24=true:=yT (by simp;omega)
 have r3:yK (yL i++d).length 1=true:=yT (by omega)
 have wn:=zO8 (n:=n+A.length) (by omega)
 have cl:=zSu (b:=d) (by omega)
 unfold xA vR xW wR
 simp only
 rw [hlast]
 simp only [Option.bind_some,Bool.not_true,Bool.not_false,cond_false,i0]
 rw [decide_eq_false (by omega:¬(d.length:Int)>4096),Nat.ble_eq_true_of_le (by omega:G.length≤4611686018427387904),gl,yCa]
 simp only [Nat.add_sub_cancel,cond_true,cond_false,ga,Option.bind_some,hsz]
 rw [decide_eq_false (by omega:¬((enc (b+cnt A) s.1).length:Int)>4096)]
 simp only [cond_false,xNo hi2,Option.bind_some,r3,cond_true,xCz hi2 hd,wn,e2,b0]
 have hfin:(bif (((yI (b+cnt A) 0 s.1).length:Int)==0) then some ((0:Int),m2,xO n b A++ [(((n+A.length:Nat):Int),(i:Int),yI (b+cnt A) 0 (s.1++ [d]),s.1++ [d])]) else some (0,m2,xO n b A++ [(((n+A.length:Nat):Int),f,yI (b+cnt A) 0 (s.1++ [d]),s.1++ [d])]))=some (0,m2,xO n b A++ [(((n+A.length:Nat):Int),((b+cnt A:Nat):Int),yI (b+cnt A) 0 (s.1++ [d]),s.1++ [d])]):=by
  rw [vN]
  by_cases hs0:s.1= []
  ·rw [hs0,hc,hs0];rfl
  ·have hp:=List.length_pos_iff.2 hs0
   have:((s.1.length:Int)==0)=false:=by rw [beq_eq_false_iff_ne];omega
   rw [this,hf hs0];rfl
 by_cases hz:cnt (A++ [s])=0
 ·rw [if_pos hz]
  simp only [b0,cond_false,hz1,←hE,r1,r2,cl,cond_true,Option.bind_some,gs]
  exact hfin
 ·rw [if_neg hz]
  have b2:(((b+cnt (A++ [s])-1:Nat):Int) !=0)=true:=by rw [bne_iff_ne];omega
  have b3:((i:Int) !=IntKind.wrap .u64 (((b+cnt (A++ [s])-1:Nat):Int)+1))=false:=by
   rw [zBo (by omega) (by omega),show ((b+cnt (A++ [s])-1:Nat):Int)+1=(i:Int) by omega];simp
  simp only [b2,b3,cond_false,hz1,←hE,r1,r2,cl,cond_true,Option.bind_some,gs]
  exact hfin
theorem yHx {m:FL} {n b:Nat} {A:List Sg} {s:Sg} {G:List SG} {d:List Int} {i:Nat} (h:Log m n b (A++ [s]) G) (hd:ROk d) (hi:i=b+cnt (A++ [s])) (hi2:i<18446744073709551616) (hs:4096<(enc (b+cnt A) s.1).length):
 if n+A.length+1>99999999∨(A++ [s]).length≥64 then ∃m',xA (m,G) ((i:Int),d)=some (2,(m',G))∧Log m' n b (A++ [(s.1,(enc (b+cnt A) s.1).length)]) G
 else ∃m' G',xA (m,G) ((i:Int),d)=some (0,(m',G'))∧Log m' n b (A++ [(s.1,(enc (b+cnt A) s.1).length)]++ [([d],0)]) G':=by
 have hdl:=hd.len
 have hrb:=zZg hi2 hd
 have hpl:=zIj hi2 hd
 have hgl:=h.glen
 have hl:=h.len
 obtain ⟨p1,p2,p3,p4,p5,p6,p7,p8⟩:=h.parts
 obtain ⟨f,eg,hf⟩:=h.last
 have hrl:=zK2 (b+cnt A) s.1
 have hc:i=b+cnt A+s.1.length:=by rw [hi,zAu];simp [cnt];omega
 have hs0:s.1≠ []:=by
  intro e
  rw [e] at hs
  simp [enc] at hs
 have hp:=List.length_pos_iff.2 hs0
 have hz:cnt (A++ [s])≠0:=by rw [zAu,cnt,cnt];omega
 have hlast:=zXv h.fine h.gr hl
 rw [if_neg hz] at hlast
 obtain ⟨m1,e1,hm1⟩:=yIa h.st (nm (n+A.length))
 obtain ⟨h1,es⟩:=h.synced hm1
 have i0:((i:Int)==0)=false:=by rw [beq_eq_false_iff_ne];omega
 have gl:G.length=(xO n b A).length+1:=by rw [eg];simp
 have ga:G[(xO n b A).length]? =some (((n+A.length:Nat):Int),f,yI (b+cnt A) 0 s.1,s.1):=by rw [eg,yB0]
 have gs:G.set (xO n b A).length (((n+A.length:Nat):Int),f,yI (b+cnt A) 0 s.1,s.1)=G:=by rw [eg,zXb]
 have b0:((0:Int) !=0)=false:=rfl
 have b2:(((b+cnt (A++ [s])-1:Nat):Int) !=0)=true:=by rw [bne_iff_ne];omega
 have b3:((i:Int) !=IntKind.wrap .u64 (((b+cnt (A++ [s])-1:Nat):Int)+1))=false:=by
  rw [zBo (by omega) (by omega),show ((b+cnt (A++ [s])-1:Nat):Int)+1=(i:Int) by omega];simp
 have hsz:∀a g,jA (a,g,yI (b+cnt A) 0 s.1,s.1)=some ((enc (b+cnt A) s.1).length:Int):=fun a g=>yPd (by omega)
 have wn:=zO8 (n:=n+A.length) (by omega)
 have wp:IntKind.wrap .i64 (((n+A.length:Nat):Int)+1)=((n+A.length+1:Nat):Int):=yW (by omega)
 have hcount:b+cnt (A++ [(s.1,(enc (b+cnt A) s.1).length)])=i:=by rw [hi,zAu,zAu,cnt,cnt,cnt,cnt]
 by_cases hbig:n+A.length+1>99999999
 ·rw [if_pos (.inl hbig)]
  refine ⟨m1, ?_,h1⟩
  unfold xA vR xW wR
  simp only
  rw [hlast]
  simp only [Option.bind_some,Bool.not_true,Bool.not_false,cond_false,i0]
  rw [decide_eq_false (by omega:¬(d.length:Int)>4096),Nat.ble_eq_true_of_le (by omega:G.length≤4611686018427387904),gl,yCa]
  simp only [Nat.add_sub_cancel,cond_true,cond_false,ga,Option.bind_some,hsz,b2,b3]
  rw [decide_eq_true (by omega:((enc (b+cnt A) s.1).length:Int)>4096)]
  simp only [cond_true]
  rw [wn]
  simp only [Option.bind_some]
  rw [e1]
  simp only [Option.bind_some]
  rw [wp,gs]
  rw [decide_eq_true (by omega:((n+A.length+1:Nat):Int)>99999999)]
  rfl
 ·have wn2:=zO8 (n:=n+A.length+1) (by omega)
  obtain ⟨m2,e2,hm2⟩:=zH6 h1.st (nm (n+A.length+1)) (b:= []) (by simp)
  obtain ⟨ea,hL⟩:=h1.opened (m':=m2) hs rfl (by omega) (by omega)
  by_cases h64:(A++ [s]).length≥64
  ·rw [if_pos (.inr h64)]
   have h64':(A++ [(s.1,(enc (b+cnt A) s.1).length)]).length≥64:=by rw [List.length_append,List.length_singleton] at h64 ⊢;exact h64
   rw [ea,if_pos h64'] at e2 hm2
   refine ⟨m2, ?_,⟨hm2,h1.fine,h1.gr⟩⟩
   unfold xA vR xW wR
   simp only
   rw [hlast]
   simp only [Option.bind_some,Bool.not_true,Bool.not_false,cond_false,i0]
   rw [decide_eq_false (by omega:¬(d.length:Int)>4096),Nat.ble_eq_true_of_le (by omega:G.length≤4611686018427387904),gl,yCa]
   simp only [Nat.add_sub_cancel,cond_true,cond_false,ga,Option.bind_some,hsz,b2,b3]
   rw [decide_eq_true (by omega:((enc (b+cnt A) s.1).length:Int)>4096)]
   simp only [cond_true]
   rw [wn]
   simp only [Option.bind_some]
   rw [e1]
   simp only [Option.bind_some]
   rw [wp,gs]
   rw [decide_eq_false (by omega:¬((n+A.length+1:Nat):Int)>99999999),cond_false]
   rw [wn2]
   simp only [Option.bind_some]
   rw [e2]
   simp only [Option.bind_some]
   rw [show ((2:Int) !=0)=true from rfl]
   simp only [cond_true]
  ·rw [if_neg (by omega)]
   have h64':¬(A++ [(s.1,(enc (b+cnt A) s.1).length)]).length≥64:=by rw [List.length_append,List.length_singleton] at h64 ⊢;exact h64
   have hL2:=hL h64' hm2
   rw [ea,if_neg h64'] at e2 hm2
   have hn2:n+A.length+1=n+(A++ [(s.1,(enc (b+cnt A) s.1).length)]).length:=by simp;omega
   obtain ⟨m3,e3,hm3⟩:=zH6 hL2.st (nm (n+A.length+1)) (b:=rb i d) (by omega)
   have hm3':=hm3
   rw [hn2] at hm3'
   obtain ⟨ea3,hL3⟩:=hL2.more hd (by rw [zAu,show cnt [(([]:List (List Int)),0)]=0 from rfl];omega) hi2 (by simp [enc]) hm3'
   rw [←hn2] at ea3
   rw [ea3] at e3
   refine ⟨m3,_, ?_,hL3⟩
   have r3:yK (yL i++d).length 1=true:=yT (by omega)
   have cl:=zSu (b:=d) (by omega)
   unfold xA vR xW wR
   simp only
   rw [hlast]
   simp only [Option.bind_some,Bool.not_true,Bool.not_false,cond_false,i0]
   rw [decide_eq_false (by omega:¬(d.length:Int)>4096),Nat.ble_eq_true_of_le (by omega:G.length≤4611686018427387904),gl,yCa]
   simp only [Nat.add_sub_cancel,cond_true,cond_false,ga,Option.bind_some,hsz,b2,b3]
   rw [decide_eq_true (by omega:((enc (b+cnt A) s.1).length:Int)>4096)]
   simp only [cond_true]
   rw [wn]
   simp only [Option.bind_some]
   rw [e1]
   simp only [Option.bind_some]
   rw [wp,gs]
   rw [decide_eq_false (by omega:¬((n+A.length+1:Nat):Int)>99999999),cond_false]
   rw [wn2]
   simp only [Option.bind_some]
   rw [e2]
   simp only [Option.bind_some,b0,cond_false]
   rw [yT (by simp;omega)]
   simp only [cond_true]
   rw [xNo hi2]
   simp only [Option.bind_some,r3,cond_true]
   rw [xCz hi2 hd]
   simp only [Option.bind_some]
   rw [e3]
   simp only [Option.bind_some,b0,cond_false]
   rw [xPv]
   simp only [Option.bind_some]
   rw [show IntKind.wrap .i64 (0+((rb i d).length:Int))=((rb i d).length:Int) by rw [yQ (by omega) (by omega)];omega,show yK [((rb i d).length:Int)].length 8=true from rfl,cl]
   simp only [cond_true,Option.bind_some]
   rw [show yK [d].length 24=true from rfl]
   simp only [cond_true,Nat.add_zero]
   rw [zXb]
   have hg2:xO n b (A++ [(s.1,(enc (b+cnt A) s.1).length)])=G:=by
    rw [zSw,eg,hf hs0]
    have:kU (b+cnt A) s.1=((b+cnt A:Nat):Int):=by
     cases hq:s.1 with
     |nil=>exact absurd hq hs0
     |cons _ _=>rfl
    rw [this]
   rw [hg2,hcount,←hn2]
   simp [yI]
end Go.Proofs.YtlhifcknhgmidaaGreatDoor.gg
