/- A part of our own proof. -/
import Derived.Test.YtlhifcknhgmidaaGreatDoorA
import Derived.Test.YtlhifcknhgmidaaGreatDoorK6
open Go Go.GG
set_option linter.unusedVariables false
namespace Go.Proofs.YtlhifcknhgmidaaGreatDoor.gg
def zQw:Str:= [97,98,99,100,101,102,103,104,105,106,107,108,109,110,111,112,113,114,115,116,117,118,119,120,121,122,48,49,50,51,52,53,54,55,56,57,46,45]
def zOs (s:Str):Bool:=decide (1≤s.length)&&(decide (s.length≤32)&&s.all fun b=>zQw.contains b)
theorem xN1 {s:Str} (h:zOs s=true):s.length≤32:=by
 unfold zOs at h
 simp only [Bool.and_eq_true,decide_eq_true_eq] at h
 exact h.2.1
theorem zQx {p:UInt8→Bool}:∀ {l:Str},l.dropWhile p= []↔l.all p=true
 | []=>by simp
 |x::l=>by
  rw [List.dropWhile_cons,List.all_cons]
  cases p x with
  |true=>simpa using zQx (l:=l)
  |false=>simp
theorem xQ8 (s:Str):(Lib.trimS s zQw== [])=s.all fun b=>zQw.contains b:=by
 rw [Bool.eq_iff_iff,beq_iff_eq]
 show (((s.reverse.dropWhile (zQw.contains ·)).reverse).dropWhile (zQw.contains ·)= [])↔_
 rw [zQx,List.all_reverse]
 constructor
 ·intro h
  cases hd:s.reverse.dropWhile (zQw.contains ·) with
  |nil=>
   rw [zQx,List.all_reverse] at hd
   exact hd
  |cons x r=>
   rw [hd,List.all_cons,Bool.and_eq_true] at h
   have:=xCu hd
   rw [h.1] at this;cases this
 ·intro h
  rw [zQx.2 (by rw [List.all_reverse];exact h)]
  rfl
theorem xUt (s:Str):yEu s=some (zOs s):=by
 unfold yEu yG2 zOs
 by_cases h1:1≤s.length
 ·rw [decide_eq_true h1,decide_eq_true (by omega:(s.length:Int)≥1)]
  by_cases h2:s.length≤32
  ·rw [decide_eq_true h2,decide_eq_true (by omega:(s.length:Int)≤32)]
   simp only [cond_true,Bool.true_and]
   have:yGu s [97,98,99,100,101,102,103,104,105,106,107,108,109,110,111,112,113,114,115,116,117,118,119,120,121,122,48,49,50,51,52,53,54,55,56,57,46,45]=some (Lib.trimS s zQw):=by
    unfold yGu
    rw [decide_eq_true (by omega:s.length≤9223372036854775807)]
    rfl
   rw [this,Option.bind_some,xQ8]
  ·rw [decide_eq_false h2,decide_eq_false (by omega:¬(s.length:Int)≤32)];rfl
 ·rw [decide_eq_false h1,decide_eq_false (by omega:¬(s.length:Int)≥1)];rfl
theorem xUc:∀n,n<256→zQw.contains (UInt8.ofNat n)=((decide (97≤n)&&decide (n≤122))||((decide (48≤n)&&decide (n≤57))||(decide (n=46)||decide (n=45)))):=by decide+kernel
theorem xVd (b:UInt8):zQw.contains b=((decide (97≤b.toNat)&&decide (b.toNat≤122))||((decide (48≤b.toNat)&&decide (b.toNat≤57))||(decide (b.toNat=46)||decide (b.toNat=45)))):=by
 have:=xUc b.toNat b.toNat_lt
 rwa [UInt8.ofNat_toNat] at this
theorem xT2 (s:Str):zVy s=some (zOs s):=by
 unfold zVy zZf zOs
 by_cases h1:1≤s.length
 ·rw [decide_eq_true h1,decide_eq_false (by omega:¬(s.length:Int)<1)]
  by_cases h2:s.length≤32
  ·rw [decide_eq_true h2,decide_eq_false (by omega:¬(s.length:Int)>32)]
   simp only [cond_false,Bool.true_and]
   have key:=xHy s (fun b=>zQw.contains b) (fun i=>zLm s (i:Int)) (a:=some (.inl ())) (b:=some (.inr false)) (fun i hi=>by
    try dsimp only
    rw [yF4];unfold zJf;rw [decide_eq_true (by omega:(i:Int)<(s.length:Int)),wY hi,yW (by omega),xVd]
    simp only [cond_true,Option.bind_some]
    generalize s[i].toNat=n
    have q1:decide ((n:Int)≥97)=decide (97≤n):=by rw [decide_eq_decide];omega
    have q2:decide ((n:Int)≤122)=decide (n≤122):=by rw [decide_eq_decide];omega
    have q3:decide ((n:Int)≥48)=decide (48≤n):=by rw [decide_eq_decide];omega
    have q4:decide ((n:Int)≤57)=decide (n≤57):=by rw [decide_eq_decide];omega
    have q5:((n:Int)==46)=decide (n=46):=by rw [Bool.eq_iff_iff,beq_iff_eq,decide_eq_true_eq];omega
    have q6:((n:Int)==45)=decide (n=45):=by rw [Bool.eq_iff_iff,beq_iff_eq,decide_eq_true_eq];omega
    rw [q1,q2,q3,q4,q5,q6]
    cases decide (97≤n)<;>cases decide (n≤122)<;>cases decide (48≤n)<;>cases decide (n≤57)<;>cases decide (n=46)<;>cases decide (n=45)<;>rfl) (by
    try dsimp only
    rw [yF4];unfold zJf;rw [decide_eq_false (by omega:¬(s.length:Int)<(s.length:Int))];rfl)
   simp only [show ((0:Nat):Int)=0 from rfl] at key
   rw [key]
   cases s.all fun b=>zQw.contains b<;>rfl
  ·rw [decide_eq_false h2,decide_eq_true (by omega:(s.length:Int)>32)];rfl
 ·rw [decide_eq_false h1,decide_eq_true (by omega:(s.length:Int)<1)];rfl
def yNp (L:FL) (k:Str):Int:=match L.findIdx? (eqK k) with|some i=>(i:Int)|none=> -1
theorem yPz {L:FL} (h:L.length≤1048576) (k:Str):zF5 L k=some (yNp L k):=by
 have key:=yPx L (eqK k) (fun i=>zLl L k (i:Int)) (f:=fun i=>some (.inr (i:Int))) (a:=some (.inl ())) (fun i hi=>by
  try dsimp only
  rw [yF0];unfold zIu;rw [decide_eq_true (by omega:(i:Int)<(L.length:Int)),wY hi,yW (by omega)]
  rfl) (by
  try dsimp only
  rw [yF0];unfold zIu;rw [decide_eq_false (by omega:¬(L.length:Int)<(L.length:Int))];rfl)
 simp only [show ((0:Nat):Int)=0 from rfl] at key
 unfold zF5 zWo yNp
 rw [key]
 cases L.findIdx? (eqK k)<;>rfl
theorem yUt {L:FL} (h:L.length≤1048576) (f:FI):zQe L f=some (zRu L f):=by
 have key0:=yKt L (zD2 (ltK f.1) (eqK f.1) f) (false, []) (fun i s=>zN4 L s.1 (i:Int) f s.2) (out:=fun s=>some (s.1,f,s.2)) (fun i hi=>by
  try dsimp only
  have hlen:=xDx (lt:=ltK f.1) (eq:=eqK f.1) (h:=f) (L.take i) (false, [])
  generalize (L.take i).foldl (zD2 (ltK f.1) (eqK f.1) f) (false, [])=s at*
  obtain ⟨b,o⟩:=s
  simp only [List.length_nil,List.length_take,Nat.zero_add] at hlen
  rw [yJb];unfold zK5;rw [decide_eq_true (by omega:(i:Int)<(L.length:Int)),wY hi,yW (by omega)]
  simp only [cond_true,Option.bind_some]
  rw [yT (by simp;omega),yT (by simp;omega),yT (by simp;omega)]
  simp only [cond_true,zD2,ltK,eqK]
  cases b<;>cases xD L[i].1 f.1<;>cases (L[i].1==f.1)<;>simp) (by
  try dsimp only
  rw [yJb];unfold zK5;rw [decide_eq_false (by omega:¬(L.length:Int)<(L.length:Int))];rfl)
 simp only [show ((0:Nat):Int)=0 from rfl] at key0
 unfold zQe yC7 zRu
 rw [key0]
 simp only [Option.bind_some]
 have hp:=xM3 (lt:=ltK f.1) (eq:=eqK f.1) (h:=f) xQw L []
 have hlen:=xDx (lt:=ltK f.1) (eq:=eqK f.1) (h:=f) L (false, [])
 generalize L.foldl (zD2 (ltK f.1) (eqK f.1) f) (false, [])=s at*
 obtain ⟨b,o⟩:=s
 simp only [List.length_nil,Nat.zero_add,List.nil_append] at hlen hp
 rw [←hp]
 cases b with
 |true=>rfl
 |false=>
  simp only [Bool.not_false,cond_true,cond_false]
  rw [yT (by simp;omega)]
  rfl
theorem xUd {L:FL} (h:L.length≤1048576) (k:Str):zYz L k=some (wG k L):=by
 have key:=yKt L (fun o x=>bif !eqK k x then o++ [x] else o) [] (fun i o=>zQp L k (i:Int) o) (out:=fun o=>some o) (fun i hi=>by
  try dsimp only
  have hlen:=congrArg List.length (yIj (fun x=> !eqK k x) (L.take i) [])
  have hf:=List.length_filter_le (fun x=> !eqK k x) (L.take i)
  generalize (L.take i).foldl (fun o x=>bif !eqK k x then o++ [x] else o) []=o at*
  simp only [List.nil_append,List.length_take] at hlen hf
  rw [yKx];unfold zNz;rw [decide_eq_true (by omega:(i:Int)<(L.length:Int)),wY hi,yW (by omega)]
  simp only [cond_true,Option.bind_some]
  rw [yT (by simp;omega)]
  show (bif !(L[i].1==k) then _ else _)=_
  unfold eqK
  cases (L[i].1==k)<;>rfl) (by
  try dsimp only
  rw [yKx];unfold zNz;rw [decide_eq_false (by omega:¬(L.length:Int)<(L.length:Int))];rfl)
 simp only [show ((0:Nat):Int)=0 from rfl] at key
 unfold zYz yDd
 rw [key,Option.bind_some,yIj]
 rfl
def FOk (x:FI):Prop:=x.1.length≤32∧x.2.1.length≤65536∧0≤x.2.2∧x.2.2≤(x.2.1.length:Int)
structure St (m L:FL):Prop where
 rel:Rel m L
 len:L.length≤64
 ok:∀x∈L,FOk x
theorem xR3 (k:Str) (L:FL):(wG k L).length≤L.length:=List.length_filter_le _ _
theorem xJr {k:Str} {L:FL} {x:FI} (h:x∈wG k L):x∈L:=(List.mem_filter.1 h).1
theorem xHk {L:FL} {f x:FI} (h:x∈zRu L f):x=f∨x∈L:=by
 rcases List.mem_cons.1 ((yKv L f).mem_iff.1 h) with h|h
 ·exact .inl h
 ·exact .inr (xJr h)
theorem xNd {L:FL} (h:zJ1 L) {k:Str} {v:FT} (e:xG (kt:= .str) k L=some v):(wG k L).length+1=L.length:=by
 obtain ⟨i,hi,e⟩:=List.mem_iff_getElem.1 ((zBg k v h).1 e)
 obtain ⟨hs,ho⟩:=yQb h hi e
 rw [ho]
 simp;omega
theorem St.find {m L:FL} (h:St m L) (k:Str):xG (kt:= .str) k m=xG (kt:= .str) k L:=h.rel.find k
theorem St.got {m L:FL} (h:St m L) {k:Str} {v:FT} (e:xG (kt:= .str) k L=some v):FOk (k,v):=h.ok _ ((zBg k v h.rel.kl).1 e)
theorem St.same {m L:FL} (h:St m L) {k:Str} {v:FT} (e:xG (kt:= .str) k L=some v):St (wJ (kt:= .str) k v m) L:=⟨h.rel.same (by rw [h.find];exact e),h.len,h.ok⟩
theorem St.put {m L:FL} (h:St m L) {k:Str} {v:FT} (e:xG (kt:= .str) k L=some v) (u:FT) (hu:FOk (k,u)):St (wJ (kt:= .str) k u m) (zRu L (k,u)):=by
 refine ⟨h.rel.set k u, ?_,fun x hx=> ?_⟩
 ·have h1:=xNd h.rel.kl e
  have h2:=(yKv L (k,u)).length_eq
  simp only [List.length_cons] at h2
  have:=h.len
  omega
 ·rcases xHk hx with rfl|hx
  ·exact hu
  ·exact h.ok x hx
theorem St.new {m L:FL} (h:St m L) (k:Str) (hl:L.length<64) (u:FT) (hu:FOk (k,u)):St (wJ (kt:= .str) k u m) (zRu L (k,u)):=by
 refine ⟨h.rel.set k u, ?_,fun x hx=> ?_⟩
 ·have:=xSv L (k,u)
  omega
 ·rcases xHk hx with rfl|hx
  ·exact hu
  ·exact h.ok x hx
theorem St.out {m L:FL} (h:St m L) (k:Str):St (zKa (kt:= .str) k m) (wG k L):=
 ⟨h.rel.del k,Nat.le_trans (xR3 k L) h.len,fun x hx=>h.ok x (xJr hx)⟩
theorem xKf:St [] []:=⟨⟨List.Perm.refl _, .of List.Pairwise.nil⟩,by decide,fun x h=>by cases h⟩
theorem xCe {m L:FL} (h:St m L) (k:Str):zDe m k=match xG (kt:= .str) k L with|none=>some ((m,none),4)|some v=>some ((wJ (kt:= .str) k v m,some k),0):=by
 unfold zDe zPm zEc zIe
 simp only [Option.bind_some,Bool.not_true,cond_false]
 rw [h.find]
 cases xG (kt:= .str) k L<;>rfl
theorem zSu {b:List Int} (h:b.length≤1048576):yV b=some b:=by
 unfold yV jQ
 rw [yT (by simp;omega)]
 simp
theorem xJd {m L:FL} (h:St m L):zFh m=some (L.map (·.1),m):=by
 unfold zFh zNb zEc zIe
 simp only [Option.bind_some,Bool.not_true,cond_false]
 rw [xT8 h.rel h.len fun x hx=>(h.ok x hx).1]
 rfl
def zWj (L:FL) (k:Str):FL×Int:=match xG (kt:= .str) k L with|none=>(L,4)|some v=>(zRu L (k,(v.1,(v.1.length:Int))),0)
theorem yIa {m L:FL} (h:St m L) (k:Str):∃m',zC7 m k=some ((zWj L k).2,m')∧St m' (zWj L k).1:=by
 unfold zC7 zP5 zWj
 rw [xCe h]
 cases e:xG (kt:= .str) k L with
 |none=>exact ⟨m,rfl,h⟩
 |some v=>
  have h2:=h.same e
  have hg:=h.got e
  refine ⟨wJ (kt:= .str) k (v.1,(v.1.length:Int)) (wJ (kt:= .str) k v m), ?_,h2.put e _ ⟨hg.1,hg.2.1,by simp,by simp⟩⟩
  simp only [Option.bind_some,Option.elim_some]
  rw [h2.find,e]
  rfl
def yUe (L:FL) (k:Str) (n:Int):FL×Int:=match xG (kt:= .str) k L with
 |none=>(L,4)
 |some v=>if n<0∨n>(v.1.length:Int) then (L,1) else (zRu L (k,(cut v.1 0 n,jW v.2 n)),0)
theorem yIb {b:List Int} {n:Int} (h0:0≤n) (h1:n≤(b.length:Int)):((cut b 0 n).length:Int)=n:=by
 unfold cut
 simp;omega
theorem xPg {m L:FL} (h:St m L) (k:Str) (n:Int):∃m',zIp m k n=some ((yUe L k n).2,m')∧St m' (yUe L k n).1:=by
 unfold zIp zR2 yUe
 rw [xCe h]
 cases e:xG (kt:= .str) k L with
 |none=>exact ⟨m,rfl,h⟩
 |some v=>
  have h2:=h.same e
  have hg:=h.got e
  simp only [Option.bind_some,Option.elim_some]
  rw [h2.find,e]
  simp only [Option.bind_some]
  by_cases h0:n<0
  ·rw [if_pos (.inl h0)]
   refine ⟨_, ?_,h2.same e⟩
   rw [decide_eq_true h0];rfl
  ·by_cases h1:n>(v.1.length:Int)
   ·rw [if_pos (.inr h1)]
    refine ⟨_, ?_,h2.same e⟩
    rw [decide_eq_false h0,decide_eq_true h1];rfl
   ·rw [if_neg (by omega)]
    have hc:((cut v.1 0 n).length:Int)=n:=yIb (by omega) (by omega)
    have hg1:v.1.length≤65536:=hg.2.1
    have hg2:0≤v.2:=hg.2.2.1
    refine ⟨wJ (kt:= .str) k (cut v.1 0 n,jW v.2 n) (wJ (kt:= .str) k v m), ?_,h2.put e _ ⟨hg.1, ?_, ?_, ?_⟩⟩
    ·rw [decide_eq_false h0,decide_eq_false h1,decide_eq_true (by omega:(0:Int)≤n),decide_eq_true (by omega:n≤(v.1.length:Int)),zSu (by omega)]
     rfl
    ·show (cut v.1 0 n).length≤65536
     omega
    ·show 0≤jW v.2 n
     unfold jW;split<;>omega
    ·show jW v.2 n≤((cut v.1 0 n).length:Int)
     rw [hc];unfold jW;split<;>omega
def yCk (L:FL) (k:Str):FL×Int:=match xG (kt:= .str) k L with|none=>(L,4)|some v=>(wG k L,0)
theorem xFs {m L:FL} (h:St m L) (k:Str):∃m',zBb m k=some ((yCk L k).2,m')∧St m' (yCk L k).1:=by
 unfold zBb zKk yCk
 rw [xCe h]
 cases e:xG (kt:= .str) k L with
 |none=>exact ⟨m,rfl,h⟩
 |some v=>
  have h2:=h.same e
  refine ⟨zKa (kt:= .str) k (wJ (kt:= .str) k v m), ?_,h2.out k⟩
  simp only [Option.bind_some,Option.elim_some]
  rw [h2.find,e,show (k==k)=true by simp]
  rfl
def zPi (L:FL) (k:Str) (b:List Int):FL×Int:=bif zOs k then (match xG (kt:= .str) k L with
 |none=>if L.length≥64∨b.length>65536 then (L,2) else (zRu L (k,(b,0)),0)
 |some v=>if v.1.length+b.length>65536 then (L,2) else (zRu L (k,(v.1++b,v.2)),0)) else (L,1)
theorem zH6 {m L:FL} (h:St m L) (k:Str) {b:List Int} (hb:b.length≤1048576):∃m',zHq m k b=some ((zPi L k b).2,m')∧St m' (zPi L k b).1:=by
 unfold zHq zKz zEc zIe zPi
 simp only [Option.bind_some,Bool.not_true,cond_false]
 rw [xUt]
 simp only [Option.bind_some]
 cases hn:zOs k with
 |false=>exact ⟨m,rfl,h⟩
 |true=>
  simp only [Bool.not_true,cond_false,cond_true]
  rw [h.find]
  have hl:=h.rel.perm.length_eq
  cases e:xG (kt:= .str) k L with
  |none=>
   simp only [Option.elim_none]
   rw [hl]
   by_cases h0:L.length≥64
   ·rw [if_pos (.inl h0),decide_eq_true (by omega:(L.length:Int)≥64)]
    exact ⟨m,rfl,h⟩
   ·rw [decide_eq_false (by omega:¬(L.length:Int)≥64)]
    by_cases h1:b.length>65536
    ·rw [if_pos (.inr h1),decide_eq_true (by omega:(b.length:Int)>65536)]
     exact ⟨m,rfl,h⟩
    ·rw [if_neg (by omega),decide_eq_false (by omega:¬(b.length:Int)>65536),yT (by omega)]
     exact ⟨_,rfl,h.new k (by omega) _ ⟨xN1 hn,by show b.length≤65536;omega,by simp,by simp⟩⟩
  |some v=>
   have hg:=h.got e
   have hg1:v.1.length≤65536:=hg.2.1
   have hg2:v.2≤(v.1.length:Int):=hg.2.2.2
   simp only [Option.elim_some]
   rw [yQ (by omega) (by omega)]
   by_cases h1:v.1.length+b.length>65536
   ·rw [if_pos h1,decide_eq_true (by omega:(b.length:Int)>65536-(v.1.length:Int))]
    exact ⟨_,rfl,h.same e⟩
   ·rw [if_neg h1,decide_eq_false (by omega:¬(b.length:Int)>65536-(v.1.length:Int)),yT (by simp;omega),show (k==k)=true by simp]
    refine ⟨_,rfl,h.put e _ ⟨hg.1, ?_,hg.2.2.1, ?_⟩⟩
    ·show (v.1++b).length≤65536
     rw [List.length_append];omega
    ·show v.2≤((v.1++b).length:Int)
     rw [List.length_append];omega
theorem yZq {m L:FL} (h:St m L):∃m',zEy m=some (L,m')∧St m' L:=by
 have key:=zTm (S:=FL×FL) L.length (fun i s=>zEq (L.length:Int) (i:Int) () (L.map (·.1)) s.1 s.2) (fun i s=>St s.1 L∧s.2=L.take i) (fun r=>∃m',r=some ((),m',L)∧St m' L)
  (fun i s hi hs=>by
   obtain ⟨s1,s2⟩:=s
   obtain ⟨hs,e2⟩:=hs
   try dsimp only at hs e2 ⊢
   subst e2
   have hm:xG (kt:= .str) L[i].1 L=some L[i].2:=(zBg _ _ h.rel.kl).2 (List.getElem_mem hi)
   have hlen:=h.len
   refine .inl ⟨(wJ (kt:= .str) L[i].1 L[i].2 s1,L.take (i+1)), ?_,hs.same hm,rfl⟩
   try dsimp only
   rw [zXt];unfold zDh;rw [decide_eq_true (by omega:(i:Int)<(L.length:Int)),decide_eq_true (by omega:(0:Int)≤(i:Int)),List.length_map,decide_eq_true (by omega:(i:Int)<(L.length:Int)),yYe,List.getElem?_map,List.getElem?_eq_getElem hi,yW (by omega)]
   simp only [cond_true,Bool.true_and,Option.map_some,Option.bind_some]
   rw [hs.find,hm]
   simp only [Option.bind_some]
   rw [zSu (by have:=(h.ok L[i] (List.getElem_mem hi)).2.1;omega)]
   simp only [Option.bind_some]
   rw [yT (by simp;omega),zQg hi]
   rfl)
  (fun s hs=>by
   obtain ⟨s1,s2⟩:=s
   obtain ⟨hs,e2⟩:=hs
   try dsimp only at hs e2 ⊢
   refine ⟨s1, ?_,hs⟩
   rw [zXt];unfold zDh;rw [decide_eq_false (by omega:¬(L.length:Int)<(L.length:Int)),e2,List.take_length]
   rfl) 0 (m, []) (Nat.zero_le _) ⟨h,rfl⟩
 obtain ⟨m',e,hm⟩:=key
 refine ⟨m', ?_,hm⟩
 unfold zEy zNg
 rw [xJd h]
 simp only [Option.bind_some,List.length_map]
 simp only [show ((0:Nat):Int)=0 from rfl] at e
 rw [e]
 rfl
def zE1 (cuts:List Int) (i:Nat) (v:FT):Int:=match cuts[i]? with|some c=>zDo 0 (jW c ((v.1.length:Int)-v.2))|none=>0
def zN5 (cuts:List Int) (i:Nat) (v:FT):FT:=(cut v.1 0 (v.2+zE1 cuts i v),v.2+zE1 cuts i v)
theorem yOm {cuts:List Int} {i:Nat} {v:FT} (h:v.2≤(v.1.length:Int)):0≤zE1 cuts i v∧v.2+zE1 cuts i v≤(v.1.length:Int):=by
 unfold zE1
 split
 ·unfold zDo jW
  split<;>split<;>omega
 ·omega
def zOr (cuts:List Int) (L:FL):FL:=L.mapIdx fun i x=>(x.1,zN5 cuts i x.2)
theorem zK7 (cuts:List Int) (L:FL):(zOr cuts L).length=L.length:=by simp [zOr]
theorem yO2 {cuts:List Int} {L:FL} {i:Nat} (h:i<L.length):(zOr cuts L)[i]'(by rw [zK7];exact h)=(L[i].1,zN5 cuts i L[i].2):=by simp [zOr]
theorem xPy {cuts:List Int} {i:Nat} {x:FI} (h:FOk x):FOk (x.1,zN5 cuts i x.2):=by
 obtain ⟨h1,h2,h3,h4⟩:=h
 have hs:=yOm (cuts:=cuts) (i:=i) h4
 have hc:=yIb (b:=x.2.1) (n:=x.2.2+zE1 cuts i x.2) (by omega) hs.2
 refine ⟨h1, ?_, ?_, ?_⟩
 ·show (cut x.2.1 0 (x.2.2+zE1 cuts i x.2)).length≤65536
  omega
 ·show 0≤x.2.2+zE1 cuts i x.2
  omega
 ·show x.2.2+zE1 cuts i x.2≤((cut x.2.1 0 (x.2.2+zE1 cuts i x.2)).length:Int)
  omega
def zQl (cuts:List Int) (L:FL) (i:Nat):FL:=L.mapIdx fun j x=>if j<i then (x.1,zN5 cuts j x.2) else x
theorem zH1 (cuts:List Int) (L:FL) (i:Nat):(zQl cuts L i).length=L.length:=by simp [zQl]
theorem zY7 {cuts:List Int} {L:FL} {i j:Nat} (h:j<L.length):(zQl cuts L i)[j]'(by rw [zH1];exact h)=if j<i then (L[j].1,zN5 cuts j L[j].2) else L[j]:=by simp [zQl]
theorem xLh (cuts:List Int) (L:FL):zQl cuts L 0=L:=by
 refine List.ext_getElem (zH1 ..) fun j h1 h2=> ?_
 rw [zY7 h2];simp
theorem xNw (cuts:List Int) (L:FL):zQl cuts L L.length=zOr cuts L:=by
 refine List.ext_getElem (by rw [zH1,zK7]) fun j h1 h2=> ?_
 rw [zH1] at h1
 rw [zY7 h1,yO2 h1,if_pos h1]
theorem yWv {cuts:List Int} {L:FL} {i:Nat} (h:i<L.length):zQl cuts L (i+1)=(zQl cuts L i).set i (L[i].1,zN5 cuts i L[i].2):=by
 refine List.ext_getElem (by rw [List.length_set,zH1,zH1]) fun j h1 h2=> ?_
 rw [zH1] at h1
 rw [zY7 h1,List.getElem_set,zY7 h1]
 by_cases hj:i=j
 ·subst hj;simp
 ·rw [if_neg hj]
  by_cases h3:j<i
  ·rw [if_pos (by omega),if_pos h3]
  ·rw [if_neg (by omega),if_neg h3]
theorem xSb {m L:FL} (h:St m L) (cuts:List Int):∃m',zB5 m cuts=some m'∧St m' (zOr cuts L):=by
 have key:=zTm (S:=FL) L.length (fun i s=>zEp cuts (L.length:Int) (i:Int) () (L.map (·.1)) s) (fun i s=>St s (zQl cuts L i)) (fun r=>∃m',r=some ((),m')∧St m' (zOr cuts L))
  (fun i s hi hs=>by
   try dsimp only at hs ⊢
   have hlen:=h.len
   have hT:=zY7 (cuts:=cuts) (i:=i) hi
   rw [if_neg (by omega)] at hT
   have hiT:i<(zQl cuts L i).length:=by rw [zH1];exact hi
   have hm:xG (kt:= .str) L[i].1 (zQl cuts L i)=some L[i].2:=(zBg _ _ hs.rel.kl).2 (by
    have:=List.getElem_mem hiT
    rwa [hT] at this)
   have hok:=h.ok L[i] (List.getElem_mem hi)
   obtain ⟨hk1,hk2,hk3,hk4⟩:=hok
   have hst:=yOm (cuts:=cuts) (i:=i) hk4
   have hc:=yIb (b:=L[i].2.1) (n:=L[i].2.2+zE1 cuts i L[i].2) (by omega) hst.2
   have next:St (wJ (kt:= .str) L[i].1 (zN5 cuts i L[i].2) s) (zQl cuts L (i+1)):=by
    refine ⟨?_,by rw [zH1];exact hlen,fun x hx=> ?_⟩
    ·rw [yWv hi]
     exact hs.rel.put_at hiT hT _
    ·rw [yWv hi] at hx
     rcases List.mem_or_eq_of_mem_set hx with hx|rfl
     ·exact hs.ok x hx
     ·exact xPy ⟨hk1,hk2,hk3,hk4⟩
   refine .inl ⟨wJ (kt:= .str) L[i].1 (zN5 cuts i L[i].2) s, ?_,next⟩
   rw [zXw];unfold zDn;rw [decide_eq_true (by omega:(i:Int)<(L.length:Int)),decide_eq_true (by omega:(0:Int)≤(i:Int)),List.length_map,decide_eq_true (by omega:(i:Int)<(L.length:Int)),yYe,List.getElem?_map,List.getElem?_eq_getElem hi,yW (by omega)]
   simp only [cond_true,Bool.true_and,Option.map_some,Option.bind_some]
   rw [hs.find,hm]
   simp only [Option.bind_some]
   unfold zN5
   by_cases hcu:i<cuts.length
   ·have es:zE1 cuts i L[i].2=zDo 0 (jW cuts[i] ((L[i].2.1.length:Int)-L[i].2.2)):=by
     unfold zE1;rw [List.getElem?_eq_getElem hcu]
    rw [decide_eq_true (by omega:(i:Int)<(cuts.length:Int)),wY hcu]
    simp only [cond_true,Option.bind_some]
    rw [yQ (n:=(L[i].2.1.length:Int)-L[i].2.2) (by omega) (by omega),←es,yQ (n:=L[i].2.2+zE1 cuts i L[i].2) (by omega) (by omega)]
    rw [decide_eq_true (by omega:(0:Int)≤L[i].2.2+zE1 cuts i L[i].2),decide_eq_true hst.2,zSu (by omega)]
    simp only [Bool.and_self,cond_true,Option.bind_some]
    rw [hc]
   ·have es:zE1 cuts i L[i].2=0:=by
     unfold zE1;rw [List.getElem?_eq_none (by omega)]
    rw [decide_eq_false (by omega:¬(i:Int)<(cuts.length:Int))]
    rw [es] at hc hst ⊢
    simp only [cond_false]
    rw [yQ (n:=L[i].2.2+0) (by omega) (by omega)]
    rw [decide_eq_true (by omega:(0:Int)≤L[i].2.2+0),decide_eq_true hst.2,zSu (by omega)]
    simp only [Bool.and_self,cond_true,Option.bind_some]
    rw [hc])
  (fun s hs=>by
   try dsimp only at hs ⊢
   rw [xNw] at hs
   refine ⟨s, ?_,hs⟩
   rw [zXw];unfold zDn;rw [decide_eq_false (by omega:¬(L.length:Int)<(L.length:Int))]
   rfl) 0 m (Nat.zero_le _) (by rw [xLh];exact h)
 obtain ⟨m',e,hm⟩:=key
 refine ⟨m', ?_,hm⟩
 unfold zB5 zM9
 rw [xJd h]
 simp only [Option.bind_some,List.length_map]
 simp only [show ((0:Nat):Int)=0 from rfl] at e
 rw [e]
 rfl
end Go.Proofs.YtlhifcknhgmidaaGreatDoor.gg
