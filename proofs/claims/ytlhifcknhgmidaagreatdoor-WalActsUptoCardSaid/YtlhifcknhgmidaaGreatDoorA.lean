/- A part of our own proof. -/
import Derived.Test.YtlhifcknhgmidaaGreatDoorK6
import Derived.Test.YtlhifcknhgmidaaGreatDoorM
open Go Go.GG
set_option linter.unusedVariables false
namespace Go.Proofs.YtlhifcknhgmidaaGreatDoor.gg
abbrev FI:=Str×FT
def ltK (k:Str) (x:FI):Bool:=xD x.1 k
def eqK (k:Str) (x:FI):Bool:=x.1==k
def jZ (L:FL):Prop:=Go.GG.Sorted xQt (fun x:FI=>x.1) L
theorem jZ.pw {L:FL} (h:jZ L):L.Pairwise fun a b:FI=>xD a.1 b.1=true:=h
theorem jZ.of {L:FL} (h:L.Pairwise fun a b:FI=>xD a.1 b.1=true):jZ L:=h
theorem xQw {k:Str}:∀x:FI,ltK k x=true→eqK k x=false:=by
 intro x h
 unfold ltK at h;unfold eqK
 rw [beq_eq_false_iff_ne]
 exact zUa h
theorem xTd {k:Str} {x:FI}:eqK k x=true↔x.1=k:=by simp [eqK]
theorem yXr (k:Str) (v:FT):eqK k (k,v)=true:=by simp [eqK]
theorem yH7 {k:Str} {x:FI}:eqK k x=false↔x.1≠k:=by simp [eqK]
def zJ1 (m:FL):Prop:=m.Pairwise fun a b:FI=>a.1≠b.1
theorem jZ.keyed {L:FL} (h:jZ L):zJ1 L:=h.pw.imp (fun h=>zUa h)
theorem zJ1.perm {m l:FL} (h:zJ1 l) (p:m.Perm l):zJ1 m:=(p.pairwise_iff (fun h=>h.symm)).2 h
def wG (k:Str) (m:FL):FL:=m.filter fun x=> !eqK k x
theorem yD9 {k:Str} {m:FL} (h:∀x∈m,x.1≠k):wG k m=m:=by
 unfold wG
 rw [List.filter_eq_self]
 intro x hx
 rw [yH7.2 (h x hx)];rfl
theorem yTx (k:Str) (v:FT):∀ {m:FL},zJ1 m→(wJ (kt:= .str) k v m).Perm ((k,v)::wG k m)
 | [],_=>List.Perm.refl _
 |(a,b)::r,h=>by
  unfold zJ1 at h
  rw [List.pairwise_cons] at h
  have e:wJ (kt:= .str) k v ((a,b)::r)=cond (k==a) ((k,v)::r) ((a,b)::wJ (kt:= .str) k v r):=rfl
  rw [e]
  by_cases hk:k=a
  ·subst hk
   rw [show (k==k)=true by simp,cond_true]
   have:wG k ((k,b)::r)=r:=by
    unfold wG
    rw [List.filter_cons,yXr]
    simp only [Bool.not_true,Bool.false_eq_true,if_false]
    exact yD9 (fun x hx=>(h.1 x hx).symm)
   rw [this]
  ·rw [show (k==a)=false by simpa using hk,cond_false]
   have:wG k ((a,b)::r)=(a,b)::wG k r:=by
    unfold wG
    rw [List.filter_cons,yH7.2 (fun e=>hk e.symm)]
    simp
   rw [this]
   exact ((yTx k v h.2).cons _).trans (List.Perm.swap _ _ _)
theorem xL9 (k:Str):∀ {m:FL},zJ1 m→zKa (kt:= .str) k m=wG k m
 | [],_=>rfl
 |(a,b)::r,h=>by
  unfold zJ1 at h
  rw [List.pairwise_cons] at h
  have e:zKa (kt:= .str) k ((a,b)::r)=cond (k==a) r ((a,b)::zKa (kt:= .str) k r):=rfl
  rw [e]
  by_cases hk:k=a
  ·subst hk
   rw [show (k==k)=true by simp,cond_true]
   symm
   unfold wG
   rw [List.filter_cons,yXr]
   simp only [Bool.not_true,Bool.false_eq_true,if_false]
   exact yD9 (fun x hx=>(h.1 x hx).symm)
  ·rw [show (k==a)=false by simpa using hk,cond_false,xL9 k h.2]
   unfold wG
   rw [List.filter_cons,yH7.2 (fun e=>hk e.symm)]
   simp
theorem zBg (k:Str) (v:FT):∀ {m:FL},zJ1 m→(xG (kt:= .str) k m=some v↔(k,v)∈m)
 | [],_=>by simp [xG]
 |(a,b)::r,h=>by
  unfold zJ1 at h
  rw [List.pairwise_cons] at h
  have e:xG (kt:= .str) k ((a,b)::r)=cond (k==a) (some b) (xG (kt:= .str) k r):=rfl
  rw [e]
  by_cases hk:k=a
  ·subst hk
   rw [show (k==k)=true by simp,cond_true]
   simp only [Option.some.injEq,List.mem_cons,Prod.mk.injEq,true_and]
   constructor
   ·exact fun h=> .inl h.symm
   ·rintro (rfl|h2)
    ·rfl
    ·exact absurd rfl (h.1 (k,v) h2)
  ·rw [show (k==a)=false by simpa using hk,cond_false,zBg k v h.2]
   simp only [List.mem_cons,Prod.mk.injEq,hk,false_and,false_or]
theorem zL8 (k:Str) {m:FL} (h:zJ1 m):xG (kt:= .str) k m=none↔∀x∈m,x.1≠k:=by
 constructor
 ·rintro e ⟨a,b⟩ hx rfl
  rw [(zBg _ _ h).2 hx] at e;cases e
 ·intro hx
  cases e:xG (kt:= .str) k m with
  |none=>rfl
  |some v=>exact absurd rfl (hx _ ((zBg _ _ h).1 e))
structure Rel (m L:FL):Prop where
 perm:m.Perm L
 srt:jZ L
theorem Rel.kl {m L:FL} (h:Rel m L):zJ1 L:=h.srt.keyed
theorem Rel.km {m L:FL} (h:Rel m L):zJ1 m:=h.kl.perm h.perm
theorem Rel.find {m L:FL} (h:Rel m L) (k:Str):xG (kt:= .str) k m=xG (kt:= .str) k L:=by
 cases e:xG (kt:= .str) k L with
 |none=>
  rw [zL8 k h.km]
  exact fun x hx=>(zL8 k h.kl).1 e x (h.perm.mem_iff.1 hx)
 |some v=>
  rw [zBg k v h.km]
  exact h.perm.mem_iff.2 ((zBg k v h.kl).1 e)
def zRu (L:FL) (f:FI):FL:=zQ4 (ltK f.1) (eqK f.1) L f
theorem yKv (L:FL) (f:FI):(zRu L f).Perm (f::wG f.1 L):=by
 unfold zRu zQ4 wG
 have h:=List.takeWhile_append_dropWhile (p:=ltK f.1) (l:=L)
 have e:(L.takeWhile (ltK f.1)).filter (fun x=> !eqK f.1 x)=L.takeWhile (ltK f.1):=by
  rw [List.filter_eq_self]
  intro x hx
  rw [xQw x (zWp hx)];rfl
 conv=>rhs;rw [←h,List.filter_append,e]
 rw [List.append_assoc]
 exact List.perm_middle
theorem yWz {L:FL} (h:jZ L) (f:FI):jZ (zRu L f):=by
 refine xNs _ h (fun x _ hx=>hx) (fun x hx he=> ?_)
 have h1:xD x.1 f.1=false:=by
  have hl:=List.takeWhile_append_dropWhile (p:=ltK f.1) (l:=L)
  have hf:=Sorted.fore (O:=xQt) (key:=fun x:FI=>x.1) h f.1
  have hc:=xO2 (ltK f.1) L
  rw [←hc.2] at hx
  obtain ⟨i,hi,e⟩:=List.mem_iff_getElem.1 hx
  simp only [List.length_drop] at hi
  rw [List.getElem_drop] at e
  cases hq:xD x.1 f.1 with
  |false=>rfl
  |true=>
   have:=(xFj (lt:=ltK f.1) hf (yPi (ltK f.1) L+i) (by omega)).1 (by rw [e];exact hq)
   omega
 rcases zQh x.1 f.1 with h2|h2|h2
 ·rw [h1] at h2;cases h2
 ·exact absurd h2 (yH7.1 he)
 ·exact h2
theorem xSv (L:FL) (f:FI):(zRu L f).length≤L.length+1:=xOs _ _ _ _
theorem xLg {L:FL} (h:jZ L) (k:Str):jZ (wG k L):= .of (h.pw.filter _)
theorem Rel.set {m L:FL} (h:Rel m L) (k:Str) (v:FT):Rel (wJ (kt:= .str) k v m) (zRu L (k,v)):=
 ⟨(yTx k v h.km).trans (((h.perm.filter _).cons _).trans (yKv L (k,v)).symm),yWz h.srt _⟩
theorem Rel.del {m L:FL} (h:Rel m L) (k:Str):Rel (zKa (kt:= .str) k m) (wG k L):=
 ⟨by rw [xL9 k h.km];exact h.perm.filter _,xLg h.srt k⟩
theorem yQb {L:FL} (h:zJ1 L) {k:Str} {v:FT} {i:Nat} (hi:i<L.length) (e:L[i]=(k,v)):L=L.take i++(k,v)::L.drop (i+1)∧wG k L=L.take i++L.drop (i+1):=by
 have hs:L=L.take i++(k,v)::L.drop (i+1):=by
  conv=>lhs;rw [←List.take_append_drop i L,List.drop_eq_getElem_cons hi,e]
 refine ⟨hs, ?_⟩
 unfold zJ1 at h
 rw [hs,List.pairwise_append,List.pairwise_cons] at h
 have h1:wG k (L.take i)=L.take i:=yD9 fun x hx=>h.2.2 x hx _ (List.mem_cons_self ..)
 have h2:wG k (L.drop (i+1))=L.drop (i+1):=yD9 fun x hx=>(h.2.1.1 x hx).symm
 conv=>lhs;rw [hs]
 unfold wG at*
 rw [List.filter_append,List.filter_cons,yXr]
 simp only [Bool.not_true,Bool.false_eq_true,if_false]
 rw [h1,h2]
theorem Rel.put_at {m L:FL} (h:Rel m L) {k:Str} {v:FT} {i:Nat} (hi:i<L.length) (e:L[i]=(k,v)) (u:FT):Rel (wJ (kt:= .str) k u m) (L.set i (k,u)):=by
 obtain ⟨hs,ho⟩:=yQb h.kl hi e
 have hset:L.set i (k,u)=L.take i++(k,u)::L.drop (i+1):=by
  rw [List.set_eq_take_append_cons_drop,if_pos hi]
 refine ⟨(yTx k u h.km).trans ?_, ?_⟩
 ·refine ((h.perm.filter _).cons _).trans ?_
  show ((k,u)::wG k L).Perm _
  rw [ho,hset]
  exact List.perm_middle.symm
 ·have hsr:=h.srt
  unfold jZ Go.GG.Sorted at hsr ⊢
  rw [hs,List.pairwise_append,List.pairwise_cons] at hsr
  rw [hset,List.pairwise_append,List.pairwise_cons]
  refine ⟨hsr.1,⟨hsr.2.1.1,hsr.2.1.2⟩,fun a ha b hb=> ?_⟩
  rcases List.mem_cons.1 hb with rfl|hb
  ·exact hsr.2.2 a ha (k,v) (List.mem_cons_self ..)
  ·exact hsr.2.2 a ha b (List.mem_cons_of_mem _ hb)
theorem Rel.same {m L:FL} (h:Rel m L) {k:Str} {v:FT} (e:xG (kt:= .str) k m=some v):Rel (wJ (kt:= .str) k v m) L:=by
 rw [h.find,zBg k v h.kl] at e
 obtain ⟨i,hi,e⟩:=List.mem_iff_getElem.1 e
 have:=h.put_at hi e v
 rwa [show L.set i (k,v)=L by rw [←e];exact List.set_getElem_self hi] at this
theorem zZp {L:FL} (h:zJ1 L) (k:Str):(xG (kt:= .str) k L=none∧L.findIdx? (eqK k)=none)∨∃v i,∃hi:i<L.length,xG (kt:= .str) k L=some v∧L.findIdx? (eqK k)=some i∧L[i]=(k,v):=by
 cases e:xG (kt:= .str) k L with
 |none=>
  refine .inl ⟨rfl, ?_⟩
  rw [List.findIdx?_eq_none_iff]
  exact fun x hx=>yH7.2 ((zL8 k h).1 e x hx)
 |some v=>
  right
  have hm:=(zBg k v h).1 e
  cases ei:L.findIdx? (eqK k) with
  |none=>
   rw [List.findIdx?_eq_none_iff] at ei
   exact absurd rfl (yH7.1 (ei _ hm))
  |some i=>
   obtain ⟨hi,h1,h2⟩:=List.findIdx?_eq_some_iff_getElem.1 ei
   refine ⟨v,i,hi,rfl,rfl, ?_⟩
   have h3:=xTd.1 h1
   have:(k,L[i].2)∈L:=by rw [←h3];exact List.getElem_mem hi
   have:=(zBg k _ h).2 this
   rw [e] at this
   injection this with this
   rw [this,←h3]
theorem Rel.set_is {m L:FL} (h:Rel m L) {k:Str} {v:FT} {i:Nat} (hi:i<L.length) (e:L[i]=(k,v)) (u:FT):zRu L (k,u)=L.set i (k,u):=by
 have h1:=h.put_at hi e u
 have h2:=h.set k u
 have hp:=h2.perm.symm.trans h1.perm
 exact hp.eq_of_pairwise (fun a b _ _ x y=>absurd (zWq x) (by rw [show xD b.1 a.1=true from y];simp)) h2.srt.pw h1.srt.pw
theorem yMf:∀x y:Str,xD x y=true↔x<y
 |x, []=>by rw [yDe];simp
 | [],b::y=>by rw [xLe];simp
 |a::x,b::y=>by
  rw [zC8,List.cons_lt_cons_iff,←yMf x y]
  simp
theorem xT8 {m L:FL} (h:Rel m L) (hn:L.length≤64) (hk:∀x∈L,x.1.length≤32):xDu m=some (L.map (·.1)):=by
 unfold xDu
 have hl:=h.perm.length_eq
 have h1:(decide (m.length≤1000000)&&m.all fun p=>decide (p.1.length≤1000000))=true:=by
  rw [Bool.and_eq_true,List.all_eq_true]
  refine ⟨decide_eq_true (by omega),fun x hx=>decide_eq_true ?_⟩
  have:=hk x (h.perm.mem_iff.1 hx)
  omega
 rw [h1,cond_true]
 congr 1
 have le_iff:∀a b:Str,decide (a≤b)=leS a b:=by
  intro a b
  rw [←xQ9]
  cases hq:xD b a with
  |true=>
   have:=(yMf b a).1 hq
   simp only [Bool.not_true,decide_eq_false_iff_not]
   exact fun hle=>absurd this (List.not_lt.2 hle)
  |false=>
   simp only [Bool.not_false,decide_eq_true_eq]
   refine List.not_lt.1 fun hlt=> ?_
   rw [(yMf b a).2 hlt] at hq;cases hq
 have p1:((m.map (·.1)).mergeSort fun x y=>decide (x≤y)).Perm (L.map (·.1)):=(List.mergeSort_perm _ _).trans (h.perm.map _)
 have s1:((m.map (·.1)).mergeSort fun x y=>decide (x≤y)).Pairwise (fun a b=>leS a b=true):=by
  have:=List.pairwise_mergeSort (le:=fun x y:Str=>decide (x≤y)) (fun a b c h1 h2=>by rw [le_iff] at*;exact xO3 h1 h2) (fun a b=>by
   rw [le_iff,le_iff]
   rcases zQh a b with h|h|h
   ·rw [yMj h];rfl
   ·subst h;rw [xSw];rfl
   ·rw [yMj h];simp) (m.map (·.1))
  exact this.imp (fun h=>by rw [le_iff] at h;exact h)
 have s2:(L.map (·.1)).Pairwise (fun a b=>leS a b=true):=by
  rw [List.pairwise_map]
  exact h.srt.pw.imp (fun h=>yMj h)
 exact p1.eq_of_pairwise (fun a b _ _ x y=>xKs x y) s1 s2
end Go.Proofs.YtlhifcknhgmidaaGreatDoor.gg
