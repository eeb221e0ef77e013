/- A part of our own proof. -/
import Derived.Test.YtlhifcknhgmidaaGreatDoorWA
import Derived.Test.YtlhifcknhgmidaaGreatDoorWB
open Go Go.GG Go.Proofs
set_option linter.unusedVariables false
namespace Go.Proofs.YtlhifcknhgmidaaGreatDoor.gg
abbrev Sg:=List (List Int)×Nat
def tl (r:List Sg) (t:List Int):List Int:=match r with| []=>t|_::_=> []
def fl:Nat→Nat→List Sg→List Int→FL
 |_,_, [],_=> []
 |n,b,s::r,t=>(nm n,(enc b s.1++tl r t,(s.2:Int)))::fl (n+1) (b+s.1.length) r t
def cnt:List Sg→Nat
 | []=>0
 |s::r=>s.1.length+cnt r
def yX:Nat→Nat→List Sg→Prop
 |_,_, []=>True
 |n,b,s::r=>(1≤n∧n≤99999999)∧GOk b s.1∧((enc b s.1).length≤9000∧b<18446744073709551616)∧0≤s.2∧(r≠ []→4096<(enc b s.1).length∧s.2=(enc b s.1).length∧b+s.1.length<18446744073709551616)∧yX (n+1) (b+s.1.length) r
theorem zFs:∀n b S t,(fl n b S t).length=S.length
 |_,_, [],_=>rfl
 |n,b,s::r,t=>by rw [fl,List.length_cons,zFs,List.length_cons]
theorem zAu:∀A B,cnt (A++B)=cnt A+cnt B
 | [],B=>by simp [cnt]
 |s::A,B=>by rw [List.cons_append,cnt,cnt,zAu A B,Nat.add_assoc]
theorem yH3:∀(n b:Nat) (A:List Sg) (s:Sg) (t:List Int),fl n b (A++ [s]) t=fl n b A []++ [(nm (n+A.length),(enc (b+cnt A) s.1++t,(s.2:Int)))]
 |n,b, [],s,t=>rfl
 |n,b,a::A,s,t=>by
  rw [List.cons_append,fl,fl,yH3 (n+1) _ A s t,List.length_cons,cnt,List.cons_append,show n+1+A.length=n+(A.length+1) by omega,Nat.add_assoc b]
  have e:tl (A++ [s]) t= []:=by cases A<;>rfl
  have e2:tl A []= []:=by cases A<;>rfl
  rw [e,e2]
theorem yX.tail {n b:Nat} {s:Sg} {r:List Sg} (h:yX n b (s::r)):yX (n+1) (b+s.1.length) r:=h.2.2.2.2.2
theorem yX.app:∀ {n b:Nat} {A B:List Sg},yX n b (A++B)→B≠ []→yX n b A∧(∀s∈A,s.1≠ [])∧yX (n+A.length) (b+cnt A) B
 |n,b, [],B,h,_=>⟨trivial,fun s hs=>by simp at hs,h⟩
 |n,b,s::A,B,h,hB=>by
  obtain ⟨h1,h2,h3,h4,h5,h6⟩:=h
  have hne:A++B≠ []:=by simp [hB]
  have h5':=h5 hne
  obtain ⟨i1,i2,i3⟩:=yX.app h6 hB
  refine ⟨⟨h1,h2,h3,h4,fun _=>h5',i1⟩,fun x hx=> ?_, ?_⟩
  ·rcases List.mem_cons.1 hx with rfl|hx
   ·intro e
    have:=h5'.1
    rw [e] at this
    simp [enc] at this
   ·exact i2 x hx
  ·rw [List.length_cons,cnt,show n+(A.length+1)=n+1+A.length by omega,←Nat.add_assoc b]
   exact i3
theorem yX.join:∀ {n b:Nat} {A B:List Sg},yX n b A→(∀s∈A,True)→yX (n+A.length) (b+cnt A) B→(∀A0 s,A=A0++ [s]→B≠ []→4096<(enc (b+cnt A0) s.1).length∧s.2=(enc (b+cnt A0) s.1).length∧b+cnt A<18446744073709551616)→yX n b (A++B)
 |n,b, [],B,_,_,h,_=>h
 |n,b,s::A,B,h,_,hB,hl=>by
  obtain ⟨h1,h2,h3,h4,h5,h6⟩:=h
  refine ⟨h1,h2,h3,h4,fun hne=> ?_,yX.join h6 (fun _ _=>trivial) ?_ (fun A0 x e hb=> ?_)⟩
  ·cases A with
   |nil=>
    have:=hl [] s rfl (by simpa using hne)
    simpa [cnt] using this
   |cons a A=>exact h5 (by simp)
  ·rw [List.length_cons,cnt] at hB
   rw [show n+1+A.length=n+(A.length+1) by omega,Nat.add_assoc]
   exact hB
  ·have:=hl (s::A0) x (by rw [e];rfl) hb
   simp only [cnt] at this ⊢
   rw [Nat.add_assoc,Nat.add_assoc]
   exact this
theorem yX.range {n b:Nat} {S:List Sg} (h:yX n b S):S= []∨(1≤n∧1≤b∧n+S.length≤100000000∧b+cnt S≤18446744073709551616):=by
 rcases List.eq_nil_or_concat S with rfl|⟨A,s,rfl⟩
 ·exact .inl rfl
 right
 rw [List.concat_eq_append] at h ⊢
 obtain ⟨_,_,h3⟩:=yX.app h (by simp)
 have ht:=h3.2.1.top
 have hh:1≤n∧1≤b:=by
  cases A with
  |nil=>exact ⟨h.1.1,h.2.1.low⟩
  |cons a A=>exact ⟨h.1.1,h.2.1.low⟩
 refine ⟨hh.1,hh.2, ?_, ?_⟩
 ·have:=h3.1.2
  rw [List.length_append,List.length_singleton];omega
 ·rw [zAu]
  simp only [cnt]
  omega
theorem xM2:∀ {n b:Nat} {S:List Sg} {t:List Int} {k:Nat},yX n b S→k<n→∀x∈fl n b S t,xD (nm k) x.1=true
 |n,b, [],t,k,_,_,x,hx=>by simp [fl] at hx
 |n,b,s::r,t,k,h,hk,x,hx=>by
  rw [fl,List.mem_cons] at hx
  rcases hx with rfl|hx
  ·exact xTu hk (by have:=h.1.2;omega)
  ·exact xM2 h.tail (by omega) x hx
theorem yLe:∀ {n b:Nat} {S:List Sg} {t:List Int},yX n b S→jZ (fl n b S t)
 |n,b, [],t,_=>List.Pairwise.nil
 |n,b,s::r,t,h=> .of (List.pairwise_cons.2 ⟨fun x hx=>xM2 h.tail (by omega) x hx,(yLe h.tail).pw⟩)
theorem yDm {F:FL} {k:Str} {v:FT} (h:jZ (F++ [(k,v)])):xG (kt:= .str) k (F++ [(k,v)])=some v:=(zBg k v h.keyed).2 (by simp)
theorem yYh {m F:FL} {k:Str} {v:FT} (h:Rel m (F++ [(k,v)])) (u:FT):zRu (F++ [(k,v)]) (k,u)=F++ [(k,u)]:=by
 rw [h.set_is (i:=F.length) (v:=v) (by simp) (by simp) u]
 simp
theorem yX4 {F:FL} {k:Str} {v:FT} (h:jZ (F++ [(k,v)])):wG k (F++ [(k,v)])=F:=by
 have:=(yQb h.keyed (k:=k) (v:=v) (i:=F.length) (by simp) (by simp)).2
 rw [this]
 simp
theorem xNi {F:FL} {k:Str} {v:FT} (h:jZ ((k,v)::F)):xG (kt:= .str) k ((k,v)::F)=some v:=(zBg k v h.keyed).2 (by simp)
theorem xE6 {F:FL} {k:Str} {v:FT} (h:jZ ((k,v)::F)):wG k ((k,v)::F)=F:=by
 have:=(yQb h.keyed (k:=k) (v:=v) (i:=0) (by simp) (by simp)).2
 rw [this]
 simp
theorem xTx {L:FL} {k:Str} {v:FT} (hL:jZ L) (h:jZ (L++ [(k,v)])):zRu L (k,v)=L++ [(k,v)]:=by
 have h0:=h.pw
 rw [List.pairwise_append] at h0
 have ho:wG k L=L:=yD9 fun x hx=>zUa (h0.2.2 x hx (k,v) (by simp))
 have hp:(zRu L (k,v)).Perm (L++ [(k,v)]):=by
  refine (yKv L (k,v)).trans ?_
  show ((k,v)::wG k L).Perm _
  rw [ho]
  exact (List.perm_append_comm (l₁:= [(k,v)]) (l₂:=L))
 exact hp.eq_of_pairwise (fun a b _ _ x y=>absurd (zWq x) (by rw [show xD b.1 a.1=true from y];simp)) (yWz hL _).pw h.pw
theorem xSk {L:FL} {k:Str} {v:FT} (h:jZ (L++ [(k,v)])):xG (kt:= .str) k L=none:=by
 have h0:=h.pw
 rw [List.pairwise_append] at h0
 have hk:zJ1 L:=h0.1.imp fun h=>zUa h
 exact (zL8 k hk).2 fun x hx=>zUa (h0.2.2 x hx (k,v) (by simp))
end Go.Proofs.YtlhifcknhgmidaaGreatDoor.gg
