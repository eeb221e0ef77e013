/- A part of our own proof. -/
import Derived.Test.YtlhifcknhgmidaaGreatDoorWM
open Go Go.GG Go.Proofs
set_option linter.unusedVariables false
namespace Go.Proofs.YtlhifcknhgmidaaGreatDoor.gg
theorem yMu {α:Type} (l:List α) (j:Nat):at? l (j:Int)=l[j]? :=by
 unfold at?
 rw [decide_eq_true (by omega:(0:Int)≤(j:Int)),cond_true,Int.toNat_natCast]
abbrev RS:=List (Int×List (Int×List Int)×List Int)
theorem yVl {l:RS} {i j c:Nat} {R:List (List Int)} {f:Int} {E:List Int} (hj:l[j]? =some (f,vC c R,E)) (hR:R.length≤10000):∀(r k:Nat),k+r=R.length→¬(c≤i∧i<c+k)→
 zI0 l (i:Int) (j:Int) (k:Int)=if c≤i∧i<c+R.length then some (.inr ((j:Int),((i-c:Nat):Int))) else some (.inl (l,(i:Int),(j:Int)))
 |0,k,e,hno=>by
  rw [yEl];unfold zHi;rw [yMu,hj,Option.bind_some,kZ,decide_eq_false (by omega:¬(k:Int)<(R.length:Int)),cond_false,if_neg (by omega)]
 |r+1,k,e,hno=>by
  have hk:k<R.length:=by omega
  have hg:(vC c R)[k]? =some (((c+k:Nat):Int),R[k]):=by
   rw [List.getElem?_eq_getElem (by rw [kZ];exact hk),zW9 c R k hk]
  rw [yEl];unfold zHi;rw [yMu,hj,Option.bind_some,kZ,decide_eq_true (by omega:(k:Int)<(R.length:Int)),cond_true,Option.bind_some,yMu,hg,Option.bind_some]
  by_cases hc:c+k=i
  ·have:(((c+k:Nat):Int)==(i:Int))=true:=by rw [hc];simp
   rw [this,cond_true,if_pos (by omega),show i-c=k by omega]
  ·have:(((c+k:Nat):Int)==(i:Int))=false:=by rw [beq_eq_false_iff_ne];omega
   rw [this,cond_false,yW (by omega)]
   exact yVl hj hR r (k+1) (by omega) (by omega)
theorem zL0 {b:Nat} {A B:List Sg} {s:Sg}:(wB 0 b (A++s::B))[A.length]? =some ((A.length:Int),vC (b+cnt A) s.1,yI (b+cnt A) 0 s.1):=by rw [yQh,Nat.zero_add]
theorem yV5 {n b:Nat} {A B:List Sg} {s:Sg} (h:yX n b (A++s::B)):s.1.length≤9000:=by
 obtain ⟨_,_,hF⟩:=yX.app h (by simp)
 have:=zK2 (b+cnt A) s.1
 have:=hF.2.2.1.1
 omega
theorem xIc {n b i:Nat} {B0:List Sg} {s:Sg} {A0:List Sg} (h:yX n b (A0++s::B0)) (hl:(A0++s::B0).length≤64) (h1:b+cnt A0≤i) (h2:i<b+cnt A0+s.1.length):∀(A2 A1:List Sg),A0=A1++A2→
 jV (wB 0 b (A0++s::B0)) (i:Int) (A1.length:Int)=some (.inr ((A0.length:Int),((i-(b+cnt A0):Nat):Int)))
 | [],A1,e=>by
   rw [List.append_nil] at e
   subst e
   rw [List.length_append,List.length_cons] at hl
   rw [zNj];unfold zB3;rw [vO,decide_eq_true (by rw [List.length_append,List.length_cons];omega:(A0.length:Int)<((A0++s::B0).length:Int)),cond_true]
   have:=yVl (i:=i) (j:=A0.length) (zL0 (b:=b) (A:=A0) (B:=B0) (s:=s)) (by have:=yV5 h;omega) s.1.length 0 (by omega) (by omega)
   simp only [show ((0:Nat):Int)=0 from rfl] at this
   rw [this,if_pos ⟨h1,h2⟩]
   rfl
 |a::A2,A1,e=>by
  have hl':=hl
  rw [List.length_append,List.length_cons,e,List.length_append,List.length_cons] at hl'
  have hca:cnt A0=cnt A1+(a.1.length+cnt A2):=by rw [e,zAu,cnt]
  have es:A0++s::B0=A1++a::(A2++s::B0):=by rw [e];simp
  have hg:(wB 0 b (A0++s::B0))[A1.length]? =some ((A1.length:Int),vC (b+cnt A1) a.1,yI (b+cnt A1) 0 a.1):=by rw [es];exact zL0
  have ha:a.1.length≤9000:=yV5 (by rw [←es];exact h)
  have:=yVl (i:=i) (j:=A1.length) hg (by omega) a.1.length 0 (by omega) (by omega)
  simp only [show ((0:Nat):Int)=0 from rfl] at this
  rw [zNj];unfold zB3;rw [vO,decide_eq_true (by rw [List.length_append,List.length_cons,e,List.length_append,List.length_cons];omega:(A1.length:Int)<((A0++s::B0).length:Int)),cond_true,this,if_neg (by omega),Option.bind_some]
  simp only [Sum.elim_inl]
  rw [yW (by omega)]
  have ih:=xIc h hl h1 h2 A2 (A1++ [a]) (by rw [e];simp)
  rw [List.length_append,List.length_singleton] at ih
  exact ih
theorem xC2 {n b i:Nat} {S:List Sg} (h:yX n b S) (hl:S.length≤64) (hi:i<b∨b+cnt S≤i):∀(B A:List Sg),S=A++B→jV (wB 0 b S) (i:Int) (A.length:Int)=some (.inl ())
 | [],A,e=>by
   rw [List.append_nil] at e
   rw [zNj];unfold zB3;rw [vO,decide_eq_false (by rw [e];omega:¬(A.length:Int)<(S.length:Int)),cond_false]
 |a::B,A,e=>by
  have hl':S.length=A.length+(B.length+1):=by rw [e];simp
  have hca:cnt S=cnt A+(a.1.length+cnt B):=by rw [e,zAu,cnt]
  have hg:(wB 0 b S)[A.length]? =some ((A.length:Int),vC (b+cnt A) a.1,yI (b+cnt A) 0 a.1):=by rw [e];exact zL0
  have ha:a.1.length≤9000:=yV5 (by rw [←e];exact h)
  have:=yVl (i:=i) (j:=A.length) hg (by omega) a.1.length 0 (by omega) (by omega)
  simp only [show ((0:Nat):Int)=0 from rfl] at this
  rw [zNj];unfold zB3;rw [vO,decide_eq_true (by omega:(A.length:Int)<(S.length:Int)),cond_true,this,if_neg (by omega),Option.bind_some]
  simp only [Sum.elim_inl]
  rw [yW (by omega)]
  have ih:=xC2 h hl hi B (A++ [a]) (by rw [e];simp)
  rw [List.length_append,List.length_singleton] at ih
  exact ih
theorem xFp {n b:Nat} {A B0:List Sg} {s:Sg} {kk:Int} (hF:yX n b (A++s::B0)) (hl:(A++s::B0).length≤64):∀(k:Nat) (B B1:List Sg) (m:FL),B.length=k→B0=B++B1→St m (fl n b (A++s::B) [])→
 zF3 (fl n b (A++s::B0) []) (A.length:Int) kk (fl n b (A++s::B) []) ((A.length+B.length:Nat):Int) (wB 0 b (A++s::B0))=some (fl n b (A++s::B0) [],(A.length:Int),kk,fl n b (A++ [s]) [],wB 0 b (A++s::B0))
 |0,B,B1,m,hk,hB,h=>by
  obtain rfl:=List.length_eq_zero_iff.1 hk
  rw [zYy];unfold zEj;rw [decide_eq_false (by simp:¬((A.length+([]:List Sg).length:Nat):Int)>(A.length:Int)),cond_false]
 |k+1,B,B1,m,hk,hB,h=>by
  rcases List.eq_nil_or_concat B with rfl|⟨B',z,rfl⟩
  ·simp at hk
  ·rw [List.concat_eq_append] at*
   have hBl:B'.length=k:=by simpa using hk
   have e1:A++s::(B'++ [z])=(A++s::B')++ [z]:=by simp
   have e2:A++s::B0=(A++s::B')++z::B1:=by rw [hB];simp
   have hlen:(A++s::B').length=A.length+(B'++ [z]).length:=by simp<;>omega
   have hl2:(A++s::B0).length=A.length+(B'++ [z]).length+(1+B1.length):=by rw [hB];simp;omega
   have hg:(wB 0 b (A++s::B0))[A.length+(B'++ [z]).length]? =some (((A.length+(B'++ [z]).length:Nat):Int),vC (b+cnt (A++s::B')) z.1,yI (b+cnt (A++s::B')) 0 z.1):=by
    have:=zL0 (b:=b) (A:=A++s::B') (B:=B1) (s:=z)
    rw [←e2,hlen] at this
    exact this
   obtain ⟨x,hx1,hx2⟩:=yVw n b (A++s::B') B1 z []
   rw [←e2,hlen] at hx1
   rw [hlen] at hx2
   have hst:=h
   rw [e1,zNl] at hst
   have hrem:yCk (fl n b (A++s::(B'++ [z])) []) (nm (n+(A.length+(B'++ [z]).length)))=(fl n b (A++s::B') [],0):=by
    unfold yCk
    rw [e1,zNl,←hlen,yDm hst.rel.srt]
    simp only
    rw [yX4 hst.rel.srt]
   have hst2:∃m',St m' (fl n b (A++s::B') []):=by
    have:=h.out (nm (n+(A.length+(B'++ [z]).length)))
    rw [e1,zNl,←hlen,yX4 hst.rel.srt] at this
    exact ⟨_,this⟩
   obtain ⟨m',hm'⟩:=hst2
   have hw:IntKind.wrap .i64 (((A.length+(B'++ [z]).length:Nat):Int)-1)=((A.length+B'.length:Nat):Int):=by
    have hll:(B'++ [z]).length=B'.length+1:=by simp
    rw [yQ (by omega) (by omega)];omega
   have hz:0<(B'++ [z]).length:=by simp
   rw [zYy];unfold zEj;rw [decide_eq_true (by omega:((A.length+(B'++ [z]).length:Nat):Int)>(A.length:Int)),cond_true,decide_eq_true (by omega:(0:Int)≤((A.length+(B'++ [z]).length:Nat):Int)),vO,decide_eq_true (by omega:((A.length+(B'++ [z]).length:Nat):Int)<((A++s::B0).length:Int)),Bool.and_self,cond_true,Int.toNat_natCast,hg,Option.bind_some,hx1,Option.bind_some,hx2,xBv h,Option.bind_some,hrem,hw]
   exact xFp hF hl k B' (z::B1) m' hBl (by rw [hB];simp) hm'
theorem xTz {m:FL} {n b:Nat} {A B:List Sg} {s:Sg} {G:List SG} (h:Log m n b (A++s::B) G) {i:Nat} (h1:b+cnt A≤i) (h2:i<b+cnt A+s.1.length):
 zCb (fl n b (A++s::B) []) (i:Int)=some (fl n b (A++ [(s.1.take (i-(b+cnt A)),min s.2 (enc (b+cnt A) (s.1.take (i-(b+cnt A)))).length)]) [],0):=by
 have hl:=h.len
 have hwh:=xIc h.fine hl h1 h2 A [] rfl
 have hwh:jV (wB 0 b (A++s::B)) (i:Int) 0=_:=hwh
 have hwhere:zBu (wB 0 b (A++s::B)) (i:Int)=some ((A.length:Int),((i-(b+cnt A):Nat):Int)):=by
  unfold zBu zGu
  rw [hwh];rfl
 have hloop:=xFp (kk:=((i-(b+cnt A):Nat):Int)) h.fine hl B.length B [] m rfl (by simp) h.st
 have hst1:∃m1,St m1 (fl n b (A++ [s]) []):=by
  obtain ⟨m1,G1,_,hL⟩:=xCj (i:=(i:Int)) B.length B m G rfl h
  exact ⟨m1,hL.st⟩
 obtain ⟨m1,hm1⟩:=hst1
 have hsl:(A++s::B).length=A.length+B.length+1:=by simp;omega
 have hw:IntKind.wrap .i64 (((A++s::B).length:Int)-1)=((A.length+B.length:Nat):Int):=by rw [yQ (by omega) (by omega)];omega
 obtain ⟨x,hx1,hx2⟩:=yVw n b A B s []
 have hle:=yMl (b+cnt A) s.1 (i-(b+cnt A))
 have hF:=yEq (R:=s.1.take (i-(b+cnt A))) hm1 (by rw [List.append_nil];exact hle) (by rw [List.append_nil];exact xC7 _ _ _)
 have hg:=zL0 (b:=b) (A:=A) (B:=B) (s:=s)
 have hs9:=yV5 h.fine
 unfold zCb zKw
 rw [yGy h.fine hl,Option.bind_some,hwhere,Option.bind_some,decide_eq_false (by omega:¬(A.length:Int)<0),cond_false,vO,hw,hloop,Option.bind_some]
 by_cases hk:i-(b+cnt A)=0
 ·have he0:(((enc (b+cnt A) (s.1.take (i-(b+cnt A)))).length:Nat):Int)=0:=by rw [hk];rfl
  rw [he0] at hF
  rw [decide_eq_false (by omega:¬((i-(b+cnt A):Nat):Int)>0),cond_false,decide_eq_true (by omega:(0:Int)≤(A.length:Int)),vO,decide_eq_true (by omega:(A.length:Int)<((A++s::B).length:Int)),Bool.and_self,cond_true,Int.toNat_natCast,hg,Option.bind_some,hx1,Option.bind_some,hx2,xD4 hm1,Option.bind_some,hF]
 ·have hw2:IntKind.wrap .i64 (((i-(b+cnt A):Nat):Int)-1)=((i-(b+cnt A)-1:Nat):Int):=by rw [yQ (by omega) (by omega)];omega
  have he:at? (yI (b+cnt A) 0 s.1) ((i-(b+cnt A)-1:Nat):Int)=some (((enc (b+cnt A) (s.1.take (i-(b+cnt A)))).length:Nat):Int):=by
   have h3:=yY5 (i:=b+cnt A) (R:=s.1.take (i-(b+cnt A))) (by rw [List.length_take];omega)
   rw [xE4,List.length_take,Nat.min_eq_left (by omega),yH5 (by rw [List.length_take,vN];omega),List.getElem_take] at h3
   rw [wY (by rw [vN];omega),h3]
  rw [decide_eq_true (by omega:((i-(b+cnt A):Nat):Int)>0),cond_true,decide_eq_true (by omega:(0:Int)≤(A.length:Int)),vO,decide_eq_true (by omega:(A.length:Int)<((A++s::B).length:Int)),Bool.and_self,cond_true,Int.toNat_natCast,hg,Option.bind_some,hw2,he,Option.bind_some,cond_true,Option.bind_some,hx1,Option.bind_some,hx2,xD4 hm1,Option.bind_some,hF]
theorem xR7 {n b:Nat} {S:List Sg} (h:yX n b S) (hl:S.length≤64) {i:Nat} (hi:i<b∨b+cnt S≤i):zCb (fl n b S []) (i:Int)=some (fl n b S [],4):=by
 have hwh:=xC2 h hl hi S [] rfl
 have hwh:jV (wB 0 b S) (i:Int) 0=_:=hwh
 unfold zCb zKw zBu zGu
 rw [yGy h hl,Option.bind_some,hwh]
 rfl
end Go.Proofs.YtlhifcknhgmidaaGreatDoor.gg
