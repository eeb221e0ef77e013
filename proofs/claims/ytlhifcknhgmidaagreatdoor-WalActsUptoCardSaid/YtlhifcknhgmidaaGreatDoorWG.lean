/- A part of our own proof. -/
import Derived.Test.YtlhifcknhgmidaaGreatDoorWF
open Go Go.GG Go.Proofs
set_option linter.unusedVariables false
namespace Go.Proofs.YtlhifcknhgmidaaGreatDoor.gg
theorem zYd {α:Type} (x:List α) (k:Nat):cut x 0 (k:Int)=x.take k:=by simp [cut]
theorem yL6 {k:Nat} (h:k≤100000):IntKind.wrap .i64 (((k+1:Nat):Int)-1)=(k:Int):=by rw [yQ (by omega) (by omega)];omega
theorem xTm (a b:Nat):jW (a:Int) (b:Int)=((min a b:Nat):Int):=by
 unfold jW
 split<;>omega
theorem Log.dropped {m m':FL} {n b:Nat} {A:List Sg} {s:Sg} {G:List SG} (h:Log m n b (A++ [s]) G) (hm:St m' (yCk (fl n b (A++ [s]) []) (nm (n+A.length))).1):Log m' n b A (xO n b A)∧yCk (fl n b (A++ [s]) []) (nm (n+A.length))=(fl n b A [],0):=by
 have hst:=h.st
 rw [zNl] at hst
 have e:yCk (fl n b (A++ [s]) []) (nm (n+A.length))=(fl n b A [],0):=by
  unfold yCk
  rw [zNl,yDm hst.rel.srt]
  simp only
  rw [yX4 hst.rel.srt]
 rw [e] at hm
 exact ⟨⟨hm,h.parts.1,GR.of_read A⟩,e⟩
theorem yEq {m:FL} {n b:Nat} {A:List Sg} {s:Sg} {t:List Int} {R:List (List Int)} (h:St m (fl n b (A++ [s]) t)) (hl:(enc (b+cnt A) R).length≤(enc (b+cnt A) s.1++t).length) (he:(enc (b+cnt A) s.1++t).take (enc (b+cnt A) R).length=enc (b+cnt A) R):
 yUe (fl n b (A++ [s]) t) (nm (n+A.length)) ((enc (b+cnt A) R).length:Int)=(fl n b (A++ [(R,min s.2 (enc (b+cnt A) R).length)]) [],0):=by
 have hst:=h
 rw [yH3] at hst
 unfold yUe
 rw [yH3,yDm hst.rel.srt]
 simp only
 rw [if_neg (by omega),yYh hst.rel,zNl,zYd,he,xTm]
theorem Log.cut {m m':FL} {n b:Nat} {A:List Sg} {s:Sg} {t:List Int} {R:List (List Int)} {f:Int} (hF:yX n b (A++ [s])) (h:St m (fl n b (A++ [s]) t)) (hl:(enc (b+cnt A) R).length≤(enc (b+cnt A) s.1++t).length) (he:(enc (b+cnt A) s.1++t).take (enc (b+cnt A) R).length=enc (b+cnt A) R)
 (hR:GOk (b+cnt A) R) (h9:(enc (b+cnt A) R).length≤9000) (hm:St m' (yUe (fl n b (A++ [s]) t) (nm (n+A.length)) ((enc (b+cnt A) R).length:Int)).1) (hf:R≠ []→f=((b+cnt A:Nat):Int)):
 Log m' n b (A++ [(R,min s.2 (enc (b+cnt A) R).length)]) (xO n b A++ [(((n+A.length:Nat):Int),f,yI (b+cnt A) 0 R,R)]):=by
 rw [yEq h hl he] at hm
 exact ⟨hm,yX.change hF hR h9 (Nat.min_le_right _ _), .inr ⟨A,_,f,rfl,rfl,hf⟩⟩
theorem xCj {i:Int} {n b:Nat} {A:List Sg} {s:Sg}:∀(k:Nat) (B:List Sg) (m:FL) (G:List SG),B.length=k→Log m n b (A++s::B) G→
 ∃m' G',zDb i (A.length:Int) () () G m=some (i,(A.length:Int),(),(),G',m')∧Log m' n b (A++ [s]) G'
 |0,B,m,G,hk,h=>by
  obtain rfl:=List.length_eq_zero_iff.1 hk
  have hl:=h.len
  have hg:=h.gr.len
  rw [List.length_append,List.length_cons,List.length_nil] at hl hg
  refine ⟨m,G, ?_,h⟩
  rw [zV6];unfold zCk;rw [yW (by omega),decide_eq_false (by omega:¬(G.length:Int)>((A.length+1:Nat):Int))]
  rfl
 |k+1,B,m,G,hk,h=>by
  rcases List.eq_nil_or_concat B with rfl|⟨B',z,rfl⟩
  ·simp at hk
  ·rw [List.concat_eq_append] at*
   have hB:B'.length=k:=by simpa using hk
   have e:A++s::(B'++ [z])=(A++s::B')++ [z]:=by simp
   rw [e] at h
   obtain ⟨p1,p2,p3,p4,p5,p6,_⟩:=h.parts
   obtain ⟨f,eg,hf⟩:=h.last
   have hl:=h.len
   obtain ⟨m1,e1,hm1⟩:=xFs h.st (nm (n+(A++s::B').length))
   obtain ⟨h1,er⟩:=h.dropped hm1
   obtain ⟨m',G',e2,h2⟩:=xCj k B' m1 (xO n b (A++s::B')) hB h1
   refine ⟨m',G', ?_,h2⟩
   have gl:G.length=(xO n b (A++s::B')).length+1:=by rw [eg];simp
   have hgl:=zB7 n b (A++s::B')
   have hl2:(A++s::B').length≤64:=by rw [List.length_append] at hl;omega
   have hal:A.length+1≤(A++s::B').length:=by simp
   have ga:G[(xO n b (A++s::B')).length]? =some (((n+(A++s::B').length:Nat):Int),f,yI (b+cnt (A++s::B')) 0 z.1,z.1):=by rw [eg,yB0]
   have gs:G.set (xO n b (A++s::B')).length (((n+(A++s::B').length:Nat):Int),f,yI (b+cnt (A++s::B')) 0 z.1,z.1)=G:=by rw [eg,zXb]
   rw [zV6];unfold zCk;rw [yW (by omega),decide_eq_true (by omega:(G.length:Int)>((A.length+1:Nat):Int)),Nat.ble_eq_true_of_le (by omega:G.length≤4611686018427387904),gl,yCa,yL6 (by omega)]
   simp only [Nat.add_sub_cancel,cond_true,cond_false,ga,Option.bind_some,gs]
   rw [zO8 (by omega)]
   simp only [Option.bind_some]
   rw [e1]
   simp only [Option.bind_some]
   rw [decide_eq_true (by omega:(0:Int)≤((xO n b (A++s::B')).length:Int)),decide_eq_true (by omega:((xO n b (A++s::B')).length:Int)≤(G.length:Int)),zYd,eg,List.take_left]
   simp only [Bool.and_self,cond_true]
   exact e2
theorem xNm {m:FL} {n b:Nat} {A B:List Sg} {s:Sg} {G:List SG} (h:Log m n b (A++s::B) G) {i:Nat} (h1:b+cnt A≤i) (h2:i<b+cnt A+s.1.length):
 ∃m' G',zAi (m,G) (i:Int)=some (0,(m',G'))∧Log m' n b (A++ [(s.1.take (i-(b+cnt A)),min s.2 (enc (b+cnt A) (s.1.take (i-(b+cnt A)))).length)]) G':=by
 have hl:=h.len
 have hgl:=h.glen
 have hgl2:=h.gr.len
 have hr:=h.fine.range
 have hi:i<18446744073709551616:=by
  rcases hr with hr|hr
  ·simp at hr
  ·rw [zAu,cnt] at hr;omega
 obtain ⟨m1,G1,e1,hL⟩:=xCj (i:=(i:Int)) B.length B m G rfl h
 obtain ⟨p1,p2,p3,p4,p5,p6,_⟩:=hL.parts
 obtain ⟨f,eg,hf⟩:=hL.last
 have hs:s.1≠ []:=by
  intro e
  rw [e,List.length_nil] at h2;omega
 have ef:=hf hs
 subst ef
 have hrl:=zK2 (b+cnt A) s.1
 have hle:=yMl (b+cnt A) s.1 (i-(b+cnt A))
 obtain ⟨m2,e2,hm2⟩:=xPg hL.st (nm (n+A.length)) ((enc (b+cnt A) (s.1.take (i-(b+cnt A)))).length:Int)
 have hC:=Log.cut (f:=((b+cnt A:Nat):Int)) (R:=s.1.take (i-(b+cnt A))) hL.fine hL.st (by rw [List.append_nil];exact hle) (by rw [List.append_nil];exact xC7 _ _ _) (p3.take _) (by omega) hm2 (fun _=>rfl)
 have hF:=yEq (R:=s.1.take (i-(b+cnt A))) hL.st (by rw [List.append_nil];exact hle) (by rw [List.append_nil];exact xC7 _ _ _)
 refine ⟨m2,_, ?_,hC⟩
 have al:A.length≤64:=by rw [List.length_append] at hl;omega
 have g1l:G1.length=A.length+1:=by rw [eg];simp [zB7]
 have ga:G1[A.length]? =some (((n+A.length:Nat):Int),((b+cnt A:Nat):Int),yI (b+cnt A) 0 s.1,s.1):=by
  rw [eg]
  have:=yB0 (xO n b A) (((n+A.length:Nat):Int),((b+cnt A:Nat):Int),yI (b+cnt A) 0 s.1,s.1)
  rwa [zB7] at this
 have gs:∀y:SG,G1.set A.length y=xO n b A++ [y]:=by
  intro y
  have:=zXb (xO n b A) (((n+A.length:Nat):Int),((b+cnt A:Nat):Int),yI (b+cnt A) 0 s.1,s.1) y
  rw [zB7] at this
  rw [eg,this]
 have ek:IntKind.wrap .i64 (IntKind.wrap .u64 ((i:Int)-((b+cnt A:Nat):Int)))=((i-(b+cnt A):Nat):Int):=by
  rw [zBo (by omega) (by omega),yQ (by omega) (by omega)];omega
 unfold zAi zHp xW wR
 simp only [Option.bind_some,Bool.not_true,Bool.not_false,cond_false]
 rw [yCn G (by omega),h.gr.find,zTa i h.fine hi,xJs h1 h2]
 simp only [Option.bind_some]
 rw [decide_eq_false (by omega:¬(A.length:Int)<0)]
 simp only [cond_false]
 rw [e1]
 simp only [Option.bind_some,g1l]
 rw [decide_eq_true (by omega:(0:Int)≤(A.length:Int)),decide_eq_true (by omega:(A.length:Int)<((A.length+1:Nat):Int)),Int.toNat_natCast,ga]
 simp only [Bool.and_self,cond_true,Option.bind_some,ek,vN]
 rw [decide_eq_true (by omega:(0:Int)≤((i-(b+cnt A):Nat):Int)),decide_eq_true (by omega:((i-(b+cnt A):Nat):Int)≤(s.1.length:Int)),zO8 (by omega),zYd,zYd,←xE4]
 simp only [Bool.and_self,cond_true,Option.bind_some]
 rw [yPd (by rw [List.length_take];omega)]
 simp only [Option.bind_some]
 rw [e2,hF]
 simp only [Option.bind_some,gs]
theorem xLa {m:FL} {n b:Nat} {S:List Sg} {G:List SG} (h:Log m n b S G) {i:Nat} (hi:i<18446744073709551616) (h1:i<b∨b+cnt S≤i):zAi (m,G) (i:Int)=some (4,(m,G)):=by
 have hgl:=h.glen
 unfold zAi zHp xW wR
 simp only [Option.bind_some,Bool.not_true,Bool.not_false,cond_false]
 rw [yCn G (by omega),h.gr.find,zTa i h.fine hi,yUq h1]
 rfl
theorem xI8 {X α:Type} {f:Nat→α→X→Option X} {xs:List α} {x:X} (h:∀i e,xs[i]? =some e→f i e x=some x):∀k,k≤xs.length→zSj f xs k x=some x
 |0,_=>rfl
 |k+1,hk=>by
  unfold zSj
  have e:xs[k]? =some (xs[k]'(by omega)):=List.getElem?_eq_getElem (by omega)
  rw [e,Option.bind_some,h k _ e,Option.bind_some]
  exact xI8 h k (by omega)
theorem yPj:∀ {n b:Nat} {S:List Sg} {t:List Int} {x:FI},x∈fl n b S t→∃k,n≤k∧k<n+S.length∧x.1=nm k
 |n,b, [],t,x,h=>by simp [fl] at h
 |n,b,s::r,t,x,h=>by
  rw [fl,List.mem_cons] at h
  rcases h with rfl|h
  ·exact ⟨n,Nat.le_refl _,by simp,rfl⟩
  ·obtain ⟨k,h1,h2,h3⟩:=yPj h
   exact ⟨k,by omega,by rw [List.length_cons];omega,h3⟩
theorem xMq {n b:Nat} {S:List Sg} {t:List Int} (hF:yX n b S) (hl:S.length≤64) (G:List SG) (last:Int) (m:FL) (hlast:S≠ []→last=((n+S.length-1:Nat):Int)):
 zQz (fl n b S t) () () G () last m=some (fl n b S t,(),(),G,(),last,m):=by
 unfold zQz
 have hL:=zFs n b S t
 rw [Nat.ble_eq_true_of_le (by omega),cond_true]
 refine xI8 (fun i e he=> ?_) _ (Nat.le_refl _)
 have hm:=List.mem_of_getElem? he
 obtain ⟨k,h1,h2,h3⟩:=yPj hm
 have hS:S≠ []:=by
  intro e
  subst e
  simp [fl] at hm
 have hr:=hF.range.resolve_left hS
 unfold zTw
 rw [h3,xE0 (by omega) (by omega),hlast hS]
 simp only [Option.bind_some,cond_true]
 rw [decide_eq_false (by omega:¬(k:Int)>((n+S.length-1:Nat):Int))]
 rfl
theorem xVb (n:Nat):nm n≠ []:=by
 intro e
 have:=yTk n
 rw [e] at this
 cases this
theorem xUk {n b:Nat} {S:List Sg} {t:List Int} (hF:yX n b S):zWj (fl n b S t) []=(fl n b S t,4):=by
 unfold zWj
 rw [(zL8 [] (yLe hF).keyed).2 fun x hx e=>by
  obtain ⟨k,_,_,h3⟩:=yPj hx
  rw [h3] at e
  exact xVb k e]
theorem xRj {m:FL} {n b:Nat} {A:List Sg} {s:Sg} {t:List Int} (h:St m (fl n b (A++ [s]) t)) (hF:yX n b (A++ [s])) (ht:yE8 t) (htop:t≠ []→b+cnt (A++ [s])<18446744073709551616):
 ∃m' G',zIb m=some ((some ((),G')),0,m')∧Log m' n b (A++ [(s.1,min s.2 (enc (b+cnt A) s.1).length)]) G':=by
 have hl:=h.len
 rw [zFs] at hl
 have hl1:A.length+1≤64:=by rw [List.length_append,List.length_singleton] at hl;exact hl
 obtain ⟨_,_,hFs⟩:=yX.app hF (by simp)
 obtain ⟨q1,q2,q3,q4,_⟩:=hFs
 obtain ⟨m1,e1,hm1⟩:=yIa h []
 rw [xUk hF] at hm1 e1
 obtain ⟨m2,e2,hm2⟩:=yZq hm1
 have hread:=xMh hF (by rw [List.length_append,List.length_singleton];omega) ht (fun e=>by simp at e) htop
 obtain ⟨m3,e3,hm3⟩:=xPg hm2 (nm (n+A.length)) ((enc (b+cnt A) s.1).length:Int)
 have hle:(enc (b+cnt A) s.1).length≤(enc (b+cnt A) s.1++t).length:=by rw [List.length_append];omega
 have hC:=Log.cut (f:=kU (b+cnt A) s.1) (R:=s.1) hF hm2 hle List.take_left q2 q3.1 hm3 (fun hs=>by
  cases hq:s.1 with
  |nil=>exact absurd hq hs
  |cons _ _=>rfl)
 refine ⟨m3,_, ?_,hC⟩
 rw [yEq hm2 hle List.take_left] at e3
 have hrl:=zK2 (b+cnt A) s.1
 have gl:(xO n b A++ [(((n+A.length:Nat):Int),kU (b+cnt A) s.1,yI (b+cnt A) 0 s.1,s.1)]).length=A.length+1:=by simp [zB7]
 have ga:(xO n b A++ [(((n+A.length:Nat):Int),kU (b+cnt A) s.1,yI (b+cnt A) 0 s.1,s.1)])[A.length]? =some (((n+A.length:Nat):Int),kU (b+cnt A) s.1,yI (b+cnt A) 0 s.1,s.1):=by
  have:=yB0 (xO n b A) (((n+A.length:Nat):Int),kU (b+cnt A) s.1,yI (b+cnt A) 0 s.1,s.1)
  rwa [zB7] at this
 have gs:(xO n b A++ [(((n+A.length:Nat):Int),kU (b+cnt A) s.1,yI (b+cnt A) 0 s.1,s.1)]).set A.length (((n+A.length:Nat):Int),kU (b+cnt A) s.1,yI (b+cnt A) 0 s.1,s.1)=xO n b A++ [(((n+A.length:Nat):Int),kU (b+cnt A) s.1,yI (b+cnt A) 0 s.1,s.1)]:=by
  have:=zXb (xO n b A) (((n+A.length:Nat):Int),kU (b+cnt A) s.1,yI (b+cnt A) 0 s.1,s.1) (((n+A.length:Nat):Int),kU (b+cnt A) s.1,yI (b+cnt A) 0 s.1,s.1)
  rwa [zB7] at this
 rw [zSw] at hread
 have hback:=xMq (t:=t) hF (by rw [List.length_append,List.length_singleton];omega) (xO n b A++ [(((n+A.length:Nat):Int),kU (b+cnt A) s.1,yI (b+cnt A) 0 s.1,s.1)]) ((n+A.length:Nat):Int) m2 (fun _=>by rw [List.length_append,List.length_singleton];congr 1)
 unfold zIb yAu zQr zOh
 rw [e1]
 simp only [Option.bind_some]
 rw [show ((4:Int)==1)=false from rfl]
 simp only [cond_false]
 rw [e2]
 simp only [Option.bind_some]
 rw [hread]
 simp only [Option.bind_some]
 generalize (xO n b A++ [(((n+A.length:Nat):Int),kU (b+cnt A) s.1,yI (b+cnt A) 0 s.1,s.1)])=G at*
 rw [gl,yL6 (by omega),decide_eq_true (by omega:((A.length+1:Nat):Int)>0),decide_eq_true (by omega:(0:Int)≤(A.length:Int)),decide_eq_true (by omega:(A.length:Int)<((A.length+1:Nat):Int)),Int.toNat_natCast,ga]
 simp only [Bool.and_self,cond_true,Option.bind_some,gs]
 rw [hback]
 simp only [Option.bind_some]
 rw [gl,yL6 (by omega),decide_eq_true (by omega:((A.length+1:Nat):Int)>0),decide_eq_true (by omega:(0:Int)≤(A.length:Int)),decide_eq_true (by omega:(A.length:Int)<((A.length+1:Nat):Int)),Int.toNat_natCast,ga]
 simp only [Bool.and_self,cond_true,Option.bind_some,gs]
 rw [zO8 (by omega)]
 simp only [Option.bind_some]
 rw [yPd (by omega)]
 simp only [Option.bind_some]
 rw [e3]
 rfl
theorem xFk {m:FL} (h:St m []):∃m',zIb m=some ((some ((), [])),0,m')∧St m' []:=by
 obtain ⟨m1,e1,hm1⟩:=yIa h []
 have en:zWj [] []=([],4):=rfl
 rw [en] at hm1 e1
 obtain ⟨m2,e2,hm2⟩:=yZq hm1
 refine ⟨m2, ?_,hm2⟩
 have hread:=xMh (n:=1) (b:=1) (S:= []) (t:= []) trivial (by simp) yPm (fun _=>rfl) (fun e=>absurd rfl e)
 have hback:=xMq (n:=1) (b:=1) (S:= []) (t:= []) trivial (by simp) [] 0 m2 (fun e=>absurd rfl e)
 unfold zIb yAu zQr zOh
 rw [e1]
 simp only [Option.bind_some]
 rw [show ((4:Int)==1)=false from rfl]
 simp only [cond_false]
 rw [e2]
 simp only [Option.bind_some]
 have hread:zX0 []=some ([],true):=hread
 have hback:zQz [] () () [] () 0 m2=some ([],(),(), [],(),0,m2):=hback
 rw [hread]
 simp only [Option.bind_some]
 have:decide (((([]:List SG).length:Nat):Int)>0)=false:=rfl
 rw [this]
 simp only [cond_false]
 rw [hback]
 rfl
end Go.Proofs.YtlhifcknhgmidaaGreatDoor.gg
