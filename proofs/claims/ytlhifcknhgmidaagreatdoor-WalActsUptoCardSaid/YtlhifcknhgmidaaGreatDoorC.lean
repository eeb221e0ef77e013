/- A part of our own proof. -/
import Derived.Test.YtlhifcknhgmidaaGreatDoorB
import Derived.Test.YtlhifcknhgmidaaGreatDoorN
open Go Go.GG
set_option linter.unusedVariables false
namespace Go.Proofs.YtlhifcknhgmidaaGreatDoor.gg
theorem xKa {m L:FL} (h:St m L) (k:Str):zRh L k=some (zWj L k):=by
 unfold zRh zYi zWj
 have hl:=h.len
 rw [yPz (by omega)]
 unfold yNp
 rcases zZp h.rel.kl k with ⟨e,ei⟩|⟨v,i,hi,e,ei,eg⟩
 ·rw [e,ei];rfl
 ·rw [e,ei]
  simp only [Option.bind_some]
  rw [decide_eq_false (by omega:¬(i:Int)<0),wY hi,eg]
  simp only [cond_false,Option.bind_some]
  rw [yUt (by omega)]
  rfl
theorem xD4 {m L:FL} (h:St m L) (k:Str) (n:Int):zUb L k n=some (yUe L k n):=by
 unfold zUb yDg yUe
 have hl:=h.len
 rw [yPz (by omega)]
 unfold yNp
 rcases zZp h.rel.kl k with ⟨e,ei⟩|⟨v,i,hi,e,ei,eg⟩
 ·rw [e,ei];rfl
 ·rw [e,ei]
  simp only [Option.bind_some]
  rw [decide_eq_false (by omega:¬(i:Int)<0),wY hi,eg]
  simp only [cond_false,Option.bind_some]
  by_cases h0:n<0
  ·rw [if_pos (.inl h0),decide_eq_true h0];rfl
  ·by_cases h1:n>(v.1.length:Int)
   ·rw [if_pos (.inr h1),decide_eq_false h0,decide_eq_true h1];rfl
   ·rw [if_neg (by omega),decide_eq_false h0,decide_eq_false h1,decide_eq_true (by omega:(0:Int)≤n),decide_eq_true (by omega:n≤(v.1.length:Int)),yUt (by omega),yUt (by omega)]
    unfold jW
    by_cases h2:v.2>n
    ·rw [decide_eq_true h2,if_pos h2];rfl
    ·rw [decide_eq_false h2,if_neg h2];rfl
theorem xBv {m L:FL} (h:St m L) (k:Str):zKe L k=some (yCk L k):=by
 unfold zKe zT1 yCk
 have hl:=h.len
 rw [yPz (by omega)]
 unfold yNp
 rcases zZp h.rel.kl k with ⟨e,ei⟩|⟨v,i,hi,e,ei,eg⟩
 ·rw [e,ei];rfl
 ·rw [e,ei]
  simp only [Option.bind_some]
  rw [decide_eq_false (by omega:¬(i:Int)<0),xUd (by omega)]
  rfl
theorem zUj {m L:FL} (h:St m L) (k:Str) {b:List Int} (hb:b.length≤1048576):zEg L k b=some (zPi L k b):=by
 unfold zEg zUd zPi
 have hl:=h.len
 rw [xT2]
 simp only [Option.bind_some]
 cases hn:zOs k with
 |false=>rfl
 |true=>
  simp only [Bool.not_true,cond_false,cond_true]
  rw [yPz (by omega)]
  unfold yNp
  rcases zZp h.rel.kl k with ⟨e,ei⟩|⟨v,i,hi,e,ei,eg⟩
  ·rw [e,ei]
   simp only [Option.bind_some]
   have e14:zD7 L b (-1) (k,0)=some (L,b,-1,k, [],0):=by rfl
   rw [e14]
   simp only [Option.bind_some,List.append_nil,List.nil_append,List.length_nil]
   rw [decide_eq_true (by omega:(-1:Int)<0)]
   simp only [cond_true]
   by_cases h0:L.length≥64
   ·rw [if_pos (.inl h0),decide_eq_true (by omega:(L.length:Int)≥64)];rfl
   ·have hw:IntKind.wrap .i64 (((0:Nat):Int)+(b.length:Int))=(b.length:Int):=by rw [yQ (by omega) (by omega)];omega
    rw [decide_eq_false (by omega:¬(L.length:Int)≥64)]
    by_cases h1:b.length>65536
    ·rw [if_pos (.inr h1),decide_eq_true (by rw [hw];omega:IntKind.wrap .i64 (((0:Nat):Int)+(b.length:Int))>65536)];rfl
    ·rw [if_neg (by omega),decide_eq_false (by rw [hw];omega:¬IntKind.wrap .i64 (((0:Nat):Int)+(b.length:Int))>65536),yT (by omega),yT (by omega),yUt (by omega)]
     rfl
  ·have hg:=h.got e
   have hg1:v.1.length≤65536:=hg.2.1
   rw [e,ei]
   simp only [Option.bind_some]
   have e14:zD7 L b (i:Int) (k,0)=some (L,b,(i:Int),k,v.1,v.2):=by
    have:at? L (i:Int)=some (k,v):=by rw [wY hi,eg]
    unfold zD7 zLa
    rw [decide_eq_true (by omega:(i:Int)≥0),this];rfl
   rw [e14]
   simp only [Option.bind_some,List.nil_append]
   rw [decide_eq_false (by omega:¬(i:Int)<0),yQ (by omega) (by omega)]
   simp only [cond_false]
   by_cases h1:v.1.length+b.length>65536
   ·rw [if_pos h1,decide_eq_true (by omega:(v.1.length:Int)+(b.length:Int)>65536)];rfl
   ·rw [if_neg h1,decide_eq_false (by omega:¬(v.1.length:Int)+(b.length:Int)>65536),yT (by omega),yT (by rw [List.length_append];omega),yUt (by omega)]
    rfl
theorem xPk {L:FL} {cuts:List Int} {i:Nat} (hi:i<cuts.length) (o:FL) (x:FI) (hx:x.2.1.length≤65536):∀(r n c:Nat),n+r=x.2.1.length→c≤n→
 zI9 L cuts (i:Int) (n:Int) (c:Int) o x=some (L,cuts,(i:Int),(n:Int)+zDo 0 (jW (cuts[i]-(c:Int)) ((x.2.1.length:Int)-(n:Int))),o,x)
 |0,n,c,h,hc=>by
  rw [yDp];unfold zHj;rw [wY hi,decide_eq_false (by omega:¬(n:Int)<(x.2.1.length:Int))]
  have:zDo 0 (jW (cuts[i]-(c:Int)) ((x.2.1.length:Int)-(n:Int)))=0:=by
   unfold zDo jW;split<;>split at* <;>omega
  rw [this,Int.add_zero]
  simp only [Option.bind_some]
  cases decide ((c:Int)<cuts[i])<;>rfl
 |r+1,n,c,h,hc=>by
  rw [yDp];unfold zHj;rw [wY hi,decide_eq_true (by omega:(n:Int)<(x.2.1.length:Int))]
  simp only [Option.bind_some,cond_true]
  by_cases hq:(c:Int)<cuts[i]
  ·rw [decide_eq_true hq,yW (by omega),yW (by omega),xPk hi o x hx r (n+1) (c+1) (by omega) (by omega)]
   have:((n+1:Nat):Int)+zDo 0 (jW (cuts[i]-((c+1:Nat):Int)) ((x.2.1.length:Int)-((n+1:Nat):Int)))=(n:Int)+zDo 0 (jW (cuts[i]-(c:Int)) ((x.2.1.length:Int)-(n:Int))):=by
    unfold zDo jW
    split<;>split<;>split<;>split<;>omega
   rw [this];rfl
  ·rw [decide_eq_false hq]
   have:zDo 0 (jW (cuts[i]-(c:Int)) ((x.2.1.length:Int)-(n:Int)))=0:=by
    unfold zDo jW;split<;>split at* <;>omega
   rw [this,Int.add_zero];rfl
theorem xPm {m L:FL} (h:St m L) (cuts:List Int):zOw L cuts=some (zOr cuts L):=by
 have hl:=h.len
 have key:=zTm (S:=FL) L.length (fun i s=>zLn L cuts (i:Int) s) (fun i s=>s=(zOr cuts L).take i) (fun r=>r=some (zOr cuts L))
  (fun i s hi hs=>by
   try dsimp only at hs ⊢
   subst hs
   obtain ⟨hk1,hk2,hk3,hk4⟩:=h.ok L[i] (List.getElem_mem hi)
   have hst:=yOm (cuts:=cuts) (i:=i) hk4
   have hiF:i<(zOr cuts L).length:=by rw [zK7];exact hi
   refine .inl ⟨_, ?_,rfl⟩
   rw [zQg hiF,yO2 hi,yGn];unfold zJe;rw [decide_eq_true (by omega:(i:Int)<(L.length:Int)),wY hi]
   simp only [cond_true,Option.bind_some,Bool.true_and]
   unfold zN5
   by_cases hcu:i<cuts.length
   ·have es:L[i].2.2+zE1 cuts i L[i].2=((L[i].2.2.toNat:Nat):Int)+zDo 0 (jW (cuts[i]-((0:Nat):Int)) ((L[i].2.1.length:Int)-((L[i].2.2.toNat:Nat):Int))):=by
     unfold zE1
     rw [List.getElem?_eq_getElem hcu,Int.toNat_of_nonneg hk3]
     simp
    have hrun:=xPk (L:=L) hcu ((zOr cuts L).take i) L[i] hk2 (L[i].2.1.length-L[i].2.2.toNat) L[i].2.2.toNat 0 (by omega) (by omega)
    rw [←es,Int.toNat_of_nonneg hk3] at hrun
    rw [decide_eq_true (by omega:(i:Int)<(cuts.length:Int))]
    simp only [cond_true]
    simp only [show ((0:Nat):Int)=0 from rfl] at hrun
    rw [hrun]
    simp only [Option.bind_some]
    rw [decide_eq_true (by omega:(0:Int)≤L[i].2.2+zE1 cuts i L[i].2),decide_eq_true hst.2,yT (by simp [zK7];omega),yW (by omega)]
    rfl
   ·have es:zE1 cuts i L[i].2=0:=by
     unfold zE1;rw [List.getElem?_eq_none (by omega)]
    rw [decide_eq_false (by omega:¬(i:Int)<(cuts.length:Int)),es,Int.add_zero]
    simp only [cond_false]
    rw [decide_eq_true hk3,decide_eq_true hk4,yT (by simp [zK7];omega),yW (by omega)]
    rfl)
  (fun s hs=>by
   try dsimp only at hs ⊢
   rw [yGn];unfold zJe;rw [decide_eq_false (by omega:¬(L.length:Int)<(L.length:Int)),hs,List.take_of_length_le (by rw [zK7];omega)]
   rfl) 0 [] (Nat.zero_le _) (by simp)
 unfold zOw zWc
 simp only [show ((0:Nat):Int)=0 from rfl] at key
 rw [key]
 rfl
end Go.Proofs.YtlhifcknhgmidaaGreatDoor.gg
