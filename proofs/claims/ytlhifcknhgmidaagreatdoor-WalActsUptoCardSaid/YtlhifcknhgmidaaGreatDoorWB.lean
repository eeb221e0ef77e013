/- A part of our own proof. -/
import Derived.Test.YtlhifcknhgmidaaGreatDoorFB
open Go Go.GG Go.Proofs
set_option linter.unusedVariables false
namespace Go.Proofs.YtlhifcknhgmidaaGreatDoor.gg
theorem yQy:yD 1:=⟨by decide,by decide⟩
theorem xLw {k:Int} {p:List Int} (hk:yD k) (hp:∀x∈p,yD x) (hl:p.length≤1048571) (t:List Int):zDl (zLe k p++t)=(k,p,((zLe k p).length:Int),0):=by
 unfold zDl zLe
 have hs:(zFi (k::p)).length=p.length+5:=by rw [zO4,List.length_cons]
 rw [List.append_assoc,zEa (by omega)]
 simp only
 rw [if_neg (by omega),List.length_append,List.length_append,hs,if_neg (by omega),List.drop_left,List.take_left' hs,xNu,if_pos rfl]
 refine Prod.ext ?_ (Prod.ext ?_ (Prod.ext ?_ rfl))
 ·show nth (zFi (k::p)) 4 0=k
  rw [yH5 (by omega)]
  rfl
 ·show (zFi (k::p)).drop 5=p
  rfl
 ·show (((yL (p.length+5)).length+(p.length+5):Nat):Int)=((yL (p.length+5)++zFi (k::p)).length:Int)
  rw [List.length_append,hs]
def Bad (b:List Int):Prop:=(zDl b).2.2.2≠0
theorem xOk {v k:Nat} (hv:v<18446744073709551616) (hk:k<(yL v).length):vJ 0 0 ((yL v).take k)=none:=by
 cases hg:vJ 0 0 ((yL v).take k) with
 |none=>rfl
 |some q=>
  obtain ⟨v',c⟩:=q
  have hb:∀x∈(yL v).take k,yD x:=fun x hx=>zTs v x (List.mem_of_mem_take hx)
  obtain ⟨hv',_,_,hcl,hcv,hbs⟩:=zD5 hb hg
  have e:yL v=yL v'++(((yL v).take k).drop c++(yL v).drop k):=by
   rw [←List.append_assoc,←hbs,List.take_append_drop]
  have h1:=zEa (n:=v) hv []
  rw [List.append_nil,e,zEa hv'] at h1
  simp only [Option.some.injEq,Prod.mk.injEq] at h1
  rw [List.length_take] at hcl
  have h2:=h1.2
  rw [←e] at h2
  omega
theorem xSi {p:List Int} {j:Nat} (hl:p.length≤1048571) (hj:j<(zLe 1 p).length):Bad ((zLe 1 p).take j):=by
 have hs:(zFi (1::p)).length=p.length+5:=by rw [zO4,List.length_cons]
 unfold Bad zDl zLe
 unfold zLe at hj
 rw [List.length_append,hs] at hj
 by_cases h1:j<(yL (p.length+5)).length
 ·rw [List.take_append_of_le_length (by omega),xOk (by omega) h1]
  simp only
  cases yK1 _<;>decide
 ·rw [List.take_append,List.take_of_length_le (by omega),zEa (by omega)]
  simp only
  rw [if_neg (by omega),List.length_append,List.length_take,hs,if_pos (by omega)]
  decide
def rb (i:Nat) (d:List Int):List Int:=zLe 1 (yL i++d)
structure ROk (d:List Int):Prop where
 byte:∀x∈d,yD x
 len:d.length≤4096
theorem yCl {i:Nat} {d:List Int} (h:ROk d):∀x∈yL i++d,yD x:=by
 intro x hx
 rcases List.mem_append.1 hx with hx|hx
 ·exact zTs _ x hx
 ·exact h.byte x hx
theorem zIj {i:Nat} {d:List Int} (hi:i<18446744073709551616) (h:ROk d):(yL i++d).length≤4106:=by
 have:=zH2 hi
 have:=h.len
 rw [List.length_append];omega
theorem zZg {i:Nat} {d:List Int} (hi:i<18446744073709551616) (h:ROk d):(rb i d).length≤4121:=by
 have h1:=zIj hi h
 have h2:=xNl (k:=1) (b:=yL i++d) (by omega)
 unfold rb;omega
theorem xH3 {i:Nat} {d:List Int}:5≤(rb i d).length:=by
 have hs:(zFi (1::(yL i++d))).length=(yL i++d).length+5:=by rw [zO4,List.length_cons]
 unfold rb zLe
 rw [List.length_append,hs];omega
theorem xCg {i:Nat} {d:List Int} (h:ROk d):∀x∈rb i d,yD x:=xLc yQy (yCl h)
theorem xM5 {i:Nat} {d:List Int} (hi:i<18446744073709551616) (h:ROk d) (t:List Int):zDl (rb i d++t)=(1,yL i++d,((rb i d).length:Int),0):=
 xLw yQy (yCl h) (by have:=zIj hi h;omega) t
theorem xUm {i j:Nat} {d:List Int} (hi:i<18446744073709551616) (h:ROk d) (hj:j<(rb i d).length):Bad ((rb i d).take j):=
 xSi (by have:=zIj hi h;omega) hj
def enc:Nat→List (List Int)→List Int
 |_, []=> []
 |i,d::r=>rb i d++enc (i+1) r
def yI:Nat→Nat→List (List Int)→List Int
 |_,_, []=> []
 |i,a,d::r=>((a+(rb i d).length:Nat):Int)::yI (i+1) (a+(rb i d).length) r
def vC:Nat→List (List Int)→List (Int×List Int)
 |_, []=> []
 |i,d::r=>((i:Int),d)::vC (i+1) r
theorem kZ:∀i R,(vC i R).length=R.length
 |_, []=>rfl
 |i,d::r=>by rw [vC,List.length_cons,kZ,List.length_cons]
theorem vN:∀i a R,(yI i a R).length=R.length
 |_,_, []=>rfl
 |i,a,d::r=>by rw [yI,List.length_cons,vN,List.length_cons]
theorem yB7:∀(i:Nat) (R S:List (List Int)),enc i (R++S)=enc i R++enc (i+R.length) S
 |i, [],S=>rfl
 |i,d::r,S=>by
  rw [List.cons_append,enc,enc,yB7 (i+1) r S,List.append_assoc,List.length_cons,show i+1+r.length=i+(r.length+1) by omega]
theorem yJw:∀(i a:Nat) (R S:List (List Int)),yI i a (R++S)=yI i a R++yI (i+R.length) (a+(enc i R).length) S
 |i,a, [],S=>rfl
 |i,a,d::r,S=>by
  rw [List.cons_append,yI,yI,yJw (i+1) _ r S,enc,List.length_cons,List.length_append,List.cons_append,show i+1+r.length=i+(r.length+1) by omega,Nat.add_assoc]
theorem yXu:∀(i:Nat) (R S:List (List Int)),vC i (R++S)=vC i R++vC (i+R.length) S
 |i, [],S=>rfl
 |i,d::r,S=>by
  rw [List.cons_append,vC,vC,yXu (i+1) r S,List.length_cons,show i+1+r.length=i+(r.length+1) by omega,List.cons_append]
theorem zW9:∀(i:Nat) (R:List (List Int)) (k:Nat) (h:k<R.length),(vC i R)[k]'(by rw [kZ];exact h)=(((i+k:Nat):Int),R[k])
 |i,d::r,0,h=>rfl
 |i,d::r,k+1,h=>by
  have:=zW9 (i+1) r k (by simpa using h)
  simp only [vC,List.getElem_cons_succ,this]
  rw [show i+1+k=i+(k+1) by omega]
theorem xE4 (i a:Nat) (R:List (List Int)) (k:Nat):yI i a (R.take k)=(yI i a R).take k:=by
 by_cases hk:k≤R.length
 ·have h:=yJw i a (R.take k) (R.drop k)
  rw [List.take_append_drop] at h
  rw [h,List.take_left' (by rw [vN,List.length_take];omega)]
 ·rw [List.take_of_length_le (by omega),List.take_of_length_le (by rw [vN];omega)]
theorem yUi (i:Nat) (R:List (List Int)) (k:Nat):enc i R=enc i (R.take k)++enc (i+(R.take k).length) (R.drop k):=by
 rw [←yB7,List.take_append_drop]
theorem yMl (i:Nat) (R:List (List Int)) (k:Nat):(enc i (R.take k)).length≤(enc i R).length:=by
 rw [yUi i R k,List.length_append];omega
theorem xC7 (i:Nat) (R:List (List Int)) (k:Nat):(enc i R).take (enc i (R.take k)).length=enc i (R.take k):=by
 rw [yUi i R k,List.take_left]
theorem xFl:∀(i a:Nat) (R:List (List Int)),(R≠ []→(yI i a R).getLast? =some ((a+(enc i R).length:Nat):Int))
 |i,a, [],h=>absurd rfl h
 |i,a, [d],_=>by simp [yI,enc]
 |i,a,d::e::r,_=>by
  have ih:=xFl (i+1) (a+(rb i d).length) (e::r) (by simp)
  rw [yI,List.getLast?_cons,ih]
  simp only [enc,List.length_append,Option.getD_some,Nat.add_assoc]
theorem yY5 {i:Nat} {R:List (List Int)} (h:0<R.length):nth (yI i 0 R) (R.length-1) 0=((enc i R).length:Int):=by
 have h1:=xFl i 0 R (by intro e;rw [e] at h;simp at h)
 rw [List.getLast?_eq_getElem?,vN,List.getElem?_eq_getElem (by rw [vN];omega)] at h1
 rw [yH5 (by rw [vN];omega)]
 simpa using h1
structure GOk (i:Nat) (R:List (List Int)):Prop where
 ok:∀d∈R,ROk d
 low:1≤i
 top:i+R.length≤18446744073709551616
theorem GOk.tail {i:Nat} {d:List Int} {r:List (List Int)} (h:GOk i (d::r)):GOk (i+1) r:=by
 have:=h.top
 rw [List.length_cons] at this
 exact ⟨fun x hx=>h.ok x (List.mem_cons_of_mem _ hx),by omega,by omega⟩
theorem GOk.take {i:Nat} {r:List (List Int)} (h:GOk i r) (k:Nat):GOk i (r.take k):=by
 have:=h.top
 exact ⟨fun x hx=>h.ok x (List.mem_of_mem_take hx),h.low,by rw [List.length_take];omega⟩
theorem yQ4:∀ {i:Nat} {R:List (List Int)},GOk i R→∀x∈enc i R,yD x
 |i, [],h,x,hx=>by simp [enc] at hx
 |i,d::r,h,x,hx=>by
  rw [enc,List.mem_append] at hx
  rcases hx with hx|hx
  ·exact xCg (h.ok d (List.mem_cons_self ..)) x hx
  ·exact yQ4 h.tail x hx
theorem xEt:∀(i:Nat) (R:List (List Int)) (p:Nat),GOk i R→p≤(enc i R).length→
 ∃k t,k≤R.length∧(enc i R).take p=enc i (R.take k)++t∧(t= []∨Bad t)∧(∀j,j≤R.length→(enc i (R.take j)).length≤p→j≤k)
 |i, [],p,_,hp=>⟨0, [],Nat.le_refl _,by simp [enc], .inl rfl,fun j hj _=>by simpa using hj⟩
 |i,d::r,p,h,hp=>by
  have hd:=h.ok d (List.mem_cons_self ..)
  have ht:=h.top
  rw [List.length_cons] at ht
  rw [enc,List.length_append] at hp
  by_cases h1:p<(rb i d).length
  ·refine ⟨0,(rb i d).take p,Nat.zero_le _, ?_, ?_,fun j hj hjp=> ?_⟩
   ·rw [enc,List.take_append_of_le_length (by omega)];rfl
   ·exact .inr (xUm (by omega) hd h1)
   ·cases j with
    |zero=>exact Nat.le_refl _
    |succ j=>rw [List.take_succ_cons,enc,List.length_append] at hjp;omega
  ·obtain ⟨k,t,hk,e,hb,hm⟩:=xEt (i+1) r (p-(rb i d).length) h.tail (by omega)
   refine ⟨k+1,t,by rw [List.length_cons];omega, ?_,hb,fun j hj hjp=> ?_⟩
   ·rw [enc,List.take_append,List.take_of_length_le (by omega),e,List.take_succ_cons,enc,List.append_assoc]
   ·cases j with
    |zero=>omega
    |succ j=>
     rw [List.take_succ_cons,enc,List.length_append] at hjp
     have:=hm j (by rw [List.length_cons] at hj;omega) (by omega)
     omega
end Go.Proofs.YtlhifcknhgmidaaGreatDoor.gg
