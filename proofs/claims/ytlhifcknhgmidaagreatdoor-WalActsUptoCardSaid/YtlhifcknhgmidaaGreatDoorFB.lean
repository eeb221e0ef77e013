/- A part of our own proof. -/
import Derived.Test.YtlhifcknhgmidaaGreatDoorFA
import Derived.Test.YtlhifcknhgmidaaGreatDoorK6
open Go Go.GG
set_option linter.unusedVariables false
namespace Go.Proofs.YtlhifcknhgmidaaGreatDoor.gg
def yK1 (b:List Int):Bool:=decide (b.length≤2)&&b.all fun c=>decide (128≤c)
def zDl (b:List Int):Int×List Int×Int×Int:=match vJ 0 0 b with
 |none=>(0, [],0,bif yK1 b then 12 else 5)
 |some (v,c)=>if v<5∨1048576<v then (0, [],0,5) else if b.length-c<v then (0, [],0,12) else
  if zFi (((b.drop c).take v).drop 4)=(b.drop c).take v then (nth ((b.drop c).take v) 4 0,((b.drop c).take v).drop 5,((c+v:Nat):Int),0) else (0, [],0,5)
theorem yHv {a b:List Int} (ha:∀x∈a,yD x) (hb:∀x∈b,yD x):(xZ a==xZ b)=decide (a=b):=by
 rw [Bool.eq_iff_iff,xLz ha hb,decide_eq_true_eq]
theorem xKo (b:List Int) (n:Nat):cut b 0 (n:Int)=b.take n:=by simp [cut]
theorem xL4 (b:List Int) (c v:Nat):cut b (c:Int) ((c+v:Nat):Int)=(b.drop c).take v:=by
 simp only [cut,Int.toNat_natCast]
 rw [List.drop_take]
 congr 1
 omega
theorem xMv {a k:Nat} {c:Int} (ha:a<128^k) (hk:k≤2) (hc:yD c):
 xH .or .i64 (a:Int) (zEh .i64 (IntKind.wrap .i64 (xH .and .u8 c 127)) (IntKind.wrap .i64 (7*(k:Int))))=((a+c.toNat % 128*128^k:Nat):Int):=by
 obtain ⟨h0,h1⟩:=hc
 rw [xPx ⟨h0,h1⟩,yQ (by omega) (by omega),yQ (by omega) (by omega)]
 have e1:c % 128=((c.toNat % 128:Nat):Int):=by omega
 rw [e1]
 have hd:c.toNat % 128<128:=Nat.mod_lt _ (by decide)
 generalize c.toNat % 128=d at hd ⊢
 have e7:(128^k:Nat)=2^(7*k):=by rw [Nat.pow_mul]
 have p2:128^k≤(128^2:Nat):=Nat.pow_le_pow_right (by decide) hk
 have hpp:0<(128^k:Nat):=Nat.pow_pos (by decide)
 have hlt:d*128^k≤127*128^2:=Nat.mul_le_mul (by omega) p2
 have s1:zEh .i64 (d:Int) (7*(k:Int))=((d*128^k:Nat):Int):=by
  unfold zEh
  have h0:min (7*(k:Int)).toNat IntKind.i64.bits=7*k:=by
   have:IntKind.i64.bits=64:=rfl
   rw [this];omega
  rw [h0]
  have:((d:Int)*2^(7*k))=((d*128^k:Nat):Int):=by rw [e7];simp
  rw [this,yQ (by omega) (by omega)]
 rw [s1]
 have b1:(BitVec.ofInt IntKind.i64.bits (a:Int)).toNat=a:=by
  rw [show IntKind.i64.bits=64 from rfl,BitVec.toNat_ofInt];omega
 have b2:(BitVec.ofInt IntKind.i64.bits ((d*128^k:Nat):Int)).toNat=d*128^k:=by
  rw [show IntKind.i64.bits=64 from rfl,BitVec.toNat_ofInt];omega
 show IntKind.wrap .i64 (((BitVec.ofInt IntKind.i64.bits (a:Int)|||BitVec.ofInt IntKind.i64.bits ((d*128^k:Nat):Int)).toNat:Nat):Int)=_
 rw [BitVec.toNat_or,b1,b2]
 have:a|||d*128^k=a+d*128^k:=by
  rw [e7] at ha ⊢
  rw [Nat.or_comm,Nat.mul_comm,←Nat.two_pow_add_eq_or_of_lt ha];omega
 rw [this,yQ (by omega) (by omega)]
def xOl (b:List Int):Int×Int×Int:=match vJ 0 0 b with
 |none=>(0,0,bif yK1 b then 12 else 5)
 |some (v,c)=>if v<5∨1048576<v then (0,0,5) else ((v:Int),(c:Int),0)
def xHj:((List Int)×Int×Int)⊕(Int×Int×Int)→Option (Int×Int×Int):=fun o2=>Sum.elim (fun a3=>(bif (a3.2.2==0) then (bif (decide (((a3.1).length:Int)<3)) then some (0,0,12) else (bif (a3.2.2==0) then some (0,0,5) else (bif (decide (a3.2.1<5)) then some (0,0,5) else (bif (decide (a3.2.1>1048576)) then some (0,0,5) else some (a3.2.1,a3.2.2,0))))) else (bif (a3.2.2==0) then some (0,0,5) else (bif (decide (a3.2.1<5)) then some (0,0,5) else (bif (decide (a3.2.1>1048576)) then some (0,0,5) else some (a3.2.1,a3.2.2,0)))))) (fun b4=>some b4) o2
theorem xRe {s:List Int} {a v c:Nat} (hb:∀x∈s,yD x) (h:vJ 3 a s=some (v,c)):1048576<v:=by
 obtain ⟨m,h1,_,h3,_,_⟩:=yOy s 3 a v c (by omega) hb h
 have:=h3 (by omega)
 have:1*128^3≤m*128^3:=Nat.mul_le_mul_right _ this
 omega
theorem xEz {b:List Int} (hl:b.length≤1000000000000) (hb:∀x∈b,yD x):∀(m i a:Nat) (s:List Int),i+m=3→i≤b.length→b.drop i=s→a<128^i→
 (zCq b (a:Int) 0 b (b.length:Int) (i:Int)).bind xHj=some (match vJ i a s with
  |none=>(0,0,bif decide (b.length≤2)&&s.all (fun c=>decide (128≤c)) then 12 else 5)
  |some (v,c)=>if v<5∨1048576<v then (0,0,5) else ((v:Int),(c:Int),0))
 |m,i,a, [],hi,hib,hs,ha=>by
  have hlen:b.length=i:=by
   have:=congrArg List.length hs
   simp at this;omega
  rw [zWz];unfold zGg;rw [decide_eq_false (by omega:¬(i:Int)<(b.length:Int))]
  simp only [cond_false,Option.bind_some,xHj,Sum.elim_inl,vJ]
  by_cases h3:b.length≤2
  ·rw [decide_eq_true h3,decide_eq_true (by omega:(b.length:Int)<3)];rfl
  ·rw [decide_eq_false h3,decide_eq_false (by omega:¬(b.length:Int)<3)];rfl
 |0,i,a,c::s,hi,hib,hs,ha=>by
  obtain rfl:i=3:=by omega
  have hlen:4≤b.length:=by
   have:=congrArg List.length hs
   simp at this;omega
  have hc:b[3]'(by omega)=c:=by
   rw [List.drop_eq_getElem_cons (by omega)] at hs
   injection hs
  rw [zWz];unfold zGg;rw [decide_eq_true (by omega:((3:Nat):Int)<(b.length:Int)),wY (by omega:3<b.length)]
  simp only [cond_true,Option.bind_some]
  have h5:(match vJ 3 a (c::s) with
   |none=>((0:Int),(0:Int),(bif decide (b.length≤2)&&(c::s).all (fun c=>decide (128≤c)) then (12:Int) else 5))
   |some (v,c)=>if v<5∨1048576<v then (0,0,5) else ((v:Int),(c:Int),0))=(0,0,5):=by
   cases hg:vJ 3 a (c::s) with
   |none=>rw [decide_eq_false (by omega:¬b.length≤2)];rfl
   |some p=>
    obtain ⟨v,q⟩:=p
    have:=xRe (fun x hx=>hb x (List.mem_of_mem_drop (hs▸hx))) hg
    show (if v<5∨1048576<v then _ else _)=_
    rw [if_pos (.inr this)]
  rw [h5]
  rfl
 |m+1,i,a,c::s,hi,hib,hs,ha=>by
  have hlen:i<b.length:=by
   have:=congrArg List.length hs
   simp at this;omega
  have hc:b[i]=c∧b.drop (i+1)=s:=by
   rw [List.drop_eq_getElem_cons hlen] at hs
   injection hs with h1 h2
   exact ⟨h1,h2⟩
  have hcb:yD c:=hc.1▸hb _ (List.getElem_mem hlen)
  have hdg:=xMv (k:=i) ha (by omega) hcb
  have hdr:=xMv (k:=i) ha (by omega) hcb
  have e7:IntKind.wrap .i64 (7*(i:Int))=7*(i:Int):=yQ (by omega) (by omega)
  rw [zWz];unfold zGg;rw [decide_eq_true (by omega:(i:Int)<(b.length:Int)),wY hlen,hc.1,yW (by omega)]
  simp only [cond_true,Option.bind_some]
  rw [hdg]
  have e3:((i:Int)==3)=false:=by rw [beq_eq_false_iff_ne];omega
  rw [e3,e7,decide_eq_true (by omega:(0:Int)≤7*(i:Int))]
  simp only [cond_false,cond_true,vJ]
  have h9:¬(i=9∧c>1):=by omega
  by_cases hz:c=0∧i>0
  ·rw [if_pos (.inr hz),decide_eq_true (by omega:(i:Int)>0)]
   have:(c==0)=true:=by simp [hz.1]
   rw [this]
   simp only [cond_true,Option.bind_some,xHj,Sum.elim_inr]
   have:(c::s).all (fun c=>decide (128≤c))=false:=by simp [hz.1]
   rw [this,Bool.and_false]
   rfl
  ·rw [if_neg (fun h=>h.elim h9 hz)]
   have go:(bif decide ((i:Int)>0) then bif c==0 then (some (.inr (0,0,5)):Option (((List Int)×Int×Int)⊕(Int×Int×Int))) else bif decide (c<128) then some (.inl (b,((a+c.toNat % 128*128^i:Nat):Int),((i+1:Nat):Int))) else zCq b ((a+c.toNat % 128*128^i:Nat):Int) 0 b (b.length:Int) ((i+1:Nat):Int) else bif decide (c<128) then some (.inl (b,((a+c.toNat % 128*128^i:Nat):Int),((i+1:Nat):Int))) else zCq b ((a+c.toNat % 128*128^i:Nat):Int) 0 b (b.length:Int) ((i+1:Nat):Int))=bif decide (c<128) then some (.inl (b,((a+c.toNat % 128*128^i:Nat):Int),((i+1:Nat):Int))) else zCq b ((a+c.toNat % 128*128^i:Nat):Int) 0 b (b.length:Int) ((i+1:Nat):Int):=by
    by_cases hi0:i>0
    ·have:(c==0)=false:=by rw [beq_eq_false_iff_ne];exact fun h=>hz ⟨h,hi0⟩
     rw [decide_eq_true (by omega:(i:Int)>0),this];rfl
    ·rw [decide_eq_false (by omega:¬(i:Int)>0)];rfl
   rw [go]
   by_cases h128:c<128
   ·rw [decide_eq_true h128,if_pos h128]
    simp only [cond_true,Option.bind_some,xHj,Sum.elim_inl]
    have hn:(((i+1:Nat):Int)==0)=false:=by rw [beq_eq_false_iff_ne];omega
    rw [hn]
    simp only [cond_false]
    generalize a+c.toNat % 128*128^i=v
    by_cases h5:v<5
    ·rw [if_pos (.inl h5),decide_eq_true (by omega:(v:Int)<5)];rfl
    ·by_cases h6:1048576<v
     ·rw [if_pos (.inr h6),decide_eq_false (by omega:¬(v:Int)<5),decide_eq_true (by omega:(v:Int)>1048576)];rfl
     ·rw [if_neg (by omega),decide_eq_false (by omega:¬(v:Int)<5),decide_eq_false (by omega:¬(v:Int)>1048576)];rfl
   ·rw [decide_eq_false h128,if_neg h128,cond_false,xEz hl hb m (i+1) _ s (by omega) (by omega) hc.2 (xH0 ha)]
    have:(c::s).all (fun c=>decide (128≤c))=s.all (fun c=>decide (128≤c)):=by
     rw [List.all_cons,decide_eq_true (by omega:128≤c),Bool.true_and]
    rw [this]
theorem xTa {b:List Int} (hl:b.length≤1000000000000) (hb:∀x∈b,yD x):zVi b=some (xOl b):=by
 have h:=xEz hl hb 3 0 0 b rfl (by omega) (by simp) (by decide)
 unfold zVi zYv xOl yK1
 exact h
theorem xT4 {l:List Int} (hl:l.length≤100000000) (hb:∀x∈l,yD x):yEg l=some (if 4≤l.length∧zFi (l.drop 4)=l then (l.drop 4,true) else ([],false)):=by
 unfold yEg yGv
 by_cases h4:4≤l.length
 ·rw [decide_eq_false (by omega:¬(l.length:Int)<4),decide_eq_true (by omega:(4:Int)≤(l.length:Int)),decide_eq_true (by omega:(l.length:Int)≤(l.length:Int)),zJb]
  simp only [Bool.and_self,cond_true,cond_false]
  have hd:∀x∈l.drop 4,yD x:=fun x hx=>hb x (List.mem_of_mem_drop hx)
  have e4:(4:Int).toNat=4:=rfl
  rw [e4,xMd (by rw [List.length_drop];omega) hd]
  simp only [Option.bind_some]
  rw [yHv (yQt hd) hb]
  by_cases he:zFi (l.drop 4)=l
  ·rw [decide_eq_true he,if_pos ⟨h4,he⟩]
   simp only [Bool.not_true,cond_false]
   have:yV (l.drop 4)=some (l.drop 4):=by
    unfold yV jQ
    rw [yT (by simp;omega)];simp
   rw [this];rfl
  ·rw [decide_eq_false he,if_neg (fun h=>he h.2)];rfl
 ·rw [decide_eq_true (by omega:(l.length:Int)<4),if_neg (fun h=>h4 h.1)];rfl
theorem xMm {b:List Int} (hl:b.length≤100000000) (hb:∀x∈b,yD x):zVs b=some (zDl b):=by
 unfold zVs zZh
 rw [xTa (by omega) hb]
 unfold xOl zDl
 cases hg:vJ 0 0 b with
 |none=>
  simp only [Option.bind_some]
  cases yK1 b<;>rfl
 |some p=>
  obtain ⟨v,c⟩:=p
  obtain ⟨hv,hc0,hc10,hcl,hcv,hbs⟩:=zD5 hb hg
  simp only [Option.bind_some]
  by_cases hr:v<5∨1048576<v
  ·rw [if_pos hr,if_pos hr];rfl
  ·rw [if_neg hr,if_neg hr]
   have e1:IntKind.wrap .i64 ((b.length:Int)-(c:Int))=((b.length-c:Nat):Int):=by rw [yQ (by omega) (by omega)];omega
   have e2:IntKind.wrap .i64 ((c:Int)+(v:Int))=((c+v:Nat):Int):=by rw [yQ (by omega) (by omega)];omega
   have e0:((0:Int) !=0)=false:=by decide
   simp only [e0,cond_false,e1,e2]
   by_cases hs:b.length-c<v
   ·rw [if_pos hs,decide_eq_true (by omega:((b.length-c:Nat):Int)<(v:Int))];rfl
   ·rw [if_neg hs,decide_eq_false (by omega:¬((b.length-c:Nat):Int)<(v:Int)),decide_eq_true (by omega:(0:Int)≤(c:Int)),decide_eq_true (by omega:(c:Int)≤((c+v:Nat):Int)),decide_eq_true (by omega:((c+v:Nat):Int)≤(b.length:Int)),xL4]
    simp only [Bool.and_self,cond_true,cond_false]
    have hbody:((b.drop c).take v).length=v:=by rw [List.length_take,List.length_drop];omega
    have hbb:∀x∈(b.drop c).take v,yD x:=fun x hx=>hb x (List.mem_of_mem_drop (List.mem_of_mem_take hx))
    generalize (b.drop c).take v=body at hbody hbb ⊢
    rw [xT4 (by omega) hbb]
    simp only [Option.bind_some]
    by_cases he:zFi (body.drop 4)=body
    ·rw [if_pos ⟨by omega,he⟩,if_pos he]
     have hp:zR0 (c:Int) (v:Int) (body.drop 4) true=some (.inl ((c:Int),(v:Int),body.drop 4)):=rfl
     rw [hp]
     simp only [Option.bind_some,Sum.elim_inl]
     have h0:at? (body.drop 4) 0=some (nth body 4 0):=by
      have hd4:0<(body.drop 4).length:=by rw [List.length_drop];omega
      have:=wY hd4
      simp only [show ((0:Nat):Int)=0 from rfl] at this
      rw [this,yH5 (by omega),List.getElem_drop]
     rw [h0,decide_eq_true (by rw [List.length_drop];omega:(1:Int)≤((body.drop 4).length:Int)),decide_eq_true (by omega:((body.drop 4).length:Int)≤((body.drop 4).length:Int)),zJb,e2]
     simp only [Option.bind_some,Bool.and_self,cond_true,beq_self_eq_true]
     rw [show (1:Int).toNat=1 from rfl,List.drop_drop]
    ·rw [if_neg (fun h=>he h.2),if_neg he]
     rfl
theorem xSa {s:List Int} (hl:s.length≤1000) (hb:∀x∈s,yD x):zF8 s=some (match vJ 0 0 s with|none=>(0,false)|some (v,c)=>((v:Int),decide (c=s.length))):=by
 unfold zF8 zQ0
 rw [xMz (yP8 s (by omega) hb)]
 simp only [Option.bind_some]
 unfold rU
 simp only [if_true,xFn]
 cases hg:vJ 0 0 s with
 |none=>
  simp only
  have:=zG6 0 (by decide)
  simp only [show ((0:Nat):Int)=0 from rfl] at this
  rw [this]
  simp only [Option.bind_some]
  rw [yHv (zTs 0) hb,decide_eq_false]
  intro h
  rw [←h] at hg
  have h2:=zEa (n:=0) (by decide) []
  rw [List.append_nil] at h2
  rw [h2] at hg;cases hg
 |some p=>
  obtain ⟨v,c⟩:=p
  obtain ⟨hv,hc0,hc10,hcl,hcv,hbs⟩:=zD5 hb hg
  simp only
  rw [zG6 v hv]
  simp only [Option.bind_some]
  rw [yHv (zTs v) hb]
  congr 2
  rw [decide_eq_decide]
  constructor
  ·intro h;rw [hcv,h]
  ·intro h
   rw [h,List.drop_length,List.append_nil] at hbs
   exact hbs.symm
theorem yZ1 {b:List Int} (hb:∀x∈b,yD x) {n:Nat} (h0:0<n) (h10:n≤10) (hn:n≤b.length):
 (∃v,vJ 0 0 b=some (v,n)∧zF8 (b.take n)=some ((v:Int),true))∨((∀v,vJ 0 0 b≠some (v,n))∧∃x,zF8 (b.take n)=some (x,false)):=by
 have hlt:(b.take n).length=n:=by rw [List.length_take];omega
 have hbt:∀x∈b.take n,yD x:=fun x hx=>hb x (List.mem_of_mem_take hx)
 rw [xSa (by omega) hbt,hlt]
 cases hg:vJ 0 0 (b.take n) with
 |none=>
  refine .inr ⟨fun v hv=> ?_,0,rfl⟩
  obtain ⟨hv1,_,_,_,hcv,hbs⟩:=zD5 hb hv
  have:b.take n=yL v:=by
   rw [hbs,List.take_left' hcv.symm]
  rw [this] at hg
  have h2:=zEa (n:=v) hv1 []
  rw [List.append_nil] at h2
  rw [h2] at hg;cases hg
 |some p=>
  obtain ⟨v,c⟩:=p
  obtain ⟨hv1,_,_,_,hcv,hbs⟩:=zD5 hbt hg
  by_cases hcn:c=n
  ·subst hcn
   left
   refine ⟨v, ?_,by simp⟩
   have h3:b.take c=yL v:=by
    rw [hbs,List.drop_of_length_le (by omega),List.append_nil]
   have h4:=zEa (n:=v) hv1 (b.drop c)
   rw [←h3,List.take_append_drop,h3,←hcv] at h4
   exact h4
  ·right
   refine ⟨fun v' hv'=> ?_,(v:Int),by simp only [decide_eq_false hcn]⟩
   obtain ⟨hv1',_,_,_,hcv',hbs'⟩:=zD5 hb hv'
   have h3:b.take n=yL v':=by
    rw [hbs',List.take_left' hcv'.symm]
   have h2:=zEa (n:=v') hv1' []
   rw [List.append_nil,←h3] at h2
   rw [h2] at hg
   simp only [Option.some.injEq,Prod.mk.injEq] at hg
   rw [hlt] at hg
   exact hcn hg.2.symm
theorem xS5 {b:List Int} (hl:b.length≤100000000):zV3 b=some (yK1 b):=by
 unfold zV3 yA2 yK1
 by_cases h2:b.length≤2
 ·rw [decide_eq_true h2,decide_eq_false (by omega:¬(b.length:Int)>2)]
  have key:=xHy b (fun c=>decide (128≤c)) (fun i=>zLi b (i:Int)) (a:=some (.inl ())) (b:=some (.inr false)) (fun i hi=>by
   try dsimp only
   rw [yF7];unfold zJk;rw [decide_eq_true (by omega:(i:Int)<(b.length:Int)),wY hi,yW (by omega)]
   simp only [cond_true,Option.bind_some]
   by_cases h:b[i]<128
   ·rw [decide_eq_true h,decide_eq_false (by omega:¬128≤b[i])];rfl
   ·rw [decide_eq_false h,decide_eq_true (by omega:128≤b[i])];rfl) (by
   try dsimp only
   rw [yF7];unfold zJk;rw [decide_eq_false (by omega:¬(b.length:Int)<(b.length:Int))];rfl)
  simp only [show ((0:Nat):Int)=0 from rfl] at key
  simp only [cond_false,Bool.true_and]
  rw [key]
  cases b.all fun c=>decide (128≤c)<;>rfl
 ·rw [decide_eq_false h2,decide_eq_true (by omega:(b.length:Int)>2)];rfl
theorem xAn {b:List Int} (hl:b.length≤100000000) (hb:∀x∈b,yD x):zV4 b=some (((zDl b).1,(zDl b).2.1),(zDl b).2.2.1,(zDl b).2.2.2):=by
 have key:=zTm (S:=Unit) (min b.length 10) (fun i _=>zE3 b ((i+1:Nat):Int) 0) (fun i _=>∀j,j≤i→∀v,vJ 0 0 b≠some (v,j))
  (fun r=>(vJ 0 0 b=none∧r=some (.inl (b,0)))∨((∃v c,vJ 0 0 b=some (v,c))∧r=some (.inr ((zDl b).2.2.1,(zDl b).2.2.2,(zDl b).1,(zDl b).2.1))))
  (fun i s hi hs=>by
   try dsimp only at hs ⊢
   have hi1:i<b.length∧i<10:=by omega
   rw [yKb];unfold zKm;rw [decide_eq_true (by omega:((i+1:Nat):Int)≤(b.length:Int)),decide_eq_true (by omega:((i+1:Nat):Int)≤10),decide_eq_true (by omega:(0:Int)≤((i+1:Nat):Int)),xKo,yW (by omega)]
   simp only [Bool.and_self,cond_true]
   rcases yZ1 hb (n:=i+1) (by omega) (by omega) (by omega) with ⟨v,hg,hv⟩|⟨hg,x,hv⟩
   ·right;right
    refine ⟨⟨v,i+1,hg⟩, ?_⟩
    obtain ⟨hv1,_,_,_,hcv,hbs⟩:=zD5 hb hg
    rw [hv]
    simp only [Option.bind_some,Bool.not_true,cond_false]
    unfold zDl
    rw [hg]
    simp only
    by_cases h5:v<5
    ·rw [if_pos (.inl h5),decide_eq_true (by omega:(v:Int)<5)];rfl
    ·by_cases h6:1048576<v
     ·rw [if_pos (.inr h6),decide_eq_false (by omega:¬(v:Int)<5),decide_eq_true (by omega:(v:Int)>1048576)];rfl
     ·rw [if_neg (by omega),decide_eq_false (by omega:¬(v:Int)<5),decide_eq_false (by omega:¬(v:Int)>1048576)]
      simp only [cond_false]
      have e1:IntKind.wrap .u64 (IntKind.wrap .i64 ((b.length:Int)-((i+1:Nat):Int)))=((b.length-(i+1):Nat):Int):=by rw [yQ (by omega) (by omega),zBo (by omega) (by omega)];omega
      have e2:IntKind.wrap .i64 (((i+1:Nat):Int)+IntKind.wrap .i64 (v:Int))=((i+1+v:Nat):Int):=by rw [yQ (n:=(v:Int)) (by omega) (by omega),yQ (by omega) (by omega)];omega
      rw [e1,e2]
      by_cases hs':b.length-(i+1)<v
      ·rw [if_pos hs',decide_eq_true (by omega:((b.length-(i+1):Nat):Int)<(v:Int))];rfl
      ·rw [if_neg hs',decide_eq_false (by omega:¬((b.length-(i+1):Nat):Int)<(v:Int)),decide_eq_true (by omega:((i+1:Nat):Int)≤((i+1+v:Nat):Int)),decide_eq_true (by omega:((i+1+v:Nat):Int)≤(b.length:Int)),xL4]
       simp only [Bool.and_self,cond_true,cond_false]
       have hbody:((b.drop (i+1)).take v).length=v:=by rw [List.length_take,List.length_drop];omega
       have hbb:∀x∈(b.drop (i+1)).take v,yD x:=fun x hx=>hb x (List.mem_of_mem_drop (List.mem_of_mem_take hx))
       generalize (b.drop (i+1)).take v=body at hbody hbb ⊢
       have hd:∀x∈body.drop 4,yD x:=fun x hx=>hbb x (List.mem_of_mem_drop hx)
       rw [decide_eq_true (by omega:(4:Int)≤(body.length:Int)),decide_eq_true (by omega:(5:Int)≤(body.length:Int)),decide_eq_true (by omega:(body.length:Int)≤(body.length:Int)),zJb,zJb,show (4:Int).toNat=4 from rfl,show (5:Int).toNat=5 from rfl,xBu (by rw [List.length_drop];omega) hd]
       simp only [Bool.and_self,cond_true,Option.bind_some]
       rw [yHv (yQt hd) hbb]
       by_cases he:zFi (body.drop 4)=body
       ·rw [if_pos he,decide_eq_true he]
        have h4:at? body 4=some (nth body 4 0):=yYs (by omega:4<body.length) 0
        rw [h4,yT (by simp;omega)]
        rfl
       ·rw [if_neg he,decide_eq_false he];rfl
   ·refine .inl ⟨(), ?_,fun j hj v=> ?_⟩
    ·rw [hv];rfl
    ·by_cases hji:j=i+1
     ·rw [hji];exact hg v
     ·exact hs j (by omega) v)
  (fun s hs=>by
   try dsimp only at hs ⊢
   left
   have hn:vJ 0 0 b=none:=by
    cases hg:vJ 0 0 b with
    |none=>rfl
    |some p=>
     obtain ⟨v,c⟩:=p
     obtain ⟨_,h0,h10,hcl,_,_⟩:=zD5 hb hg
     exact absurd hg (hs c (by omega) v)
   refine ⟨hn, ?_⟩
   rw [yKb];unfold zKm
   by_cases h1:b.length<10
   ·rw [decide_eq_false (by omega:¬((min b.length 10+1:Nat):Int)≤(b.length:Int))];rfl
   ·rw [decide_eq_false (by omega:¬((min b.length 10+1:Nat):Int)≤10)]
    cases decide (((min b.length 10+1:Nat):Int)≤(b.length:Int))<;>rfl) 0 () (Nat.zero_le _) (fun j hj v hv=>by
    obtain ⟨_,h0,_,_,_,_⟩:=zD5 hb hv
    omega)
 unfold zV4 yAb
 have key':(vJ 0 0 b=none∧zE3 b 1 0=some (.inl (b,0)))∨((∃v c,vJ 0 0 b=some (v,c))∧zE3 b 1 0=some (.inr ((zDl b).2.2.1,(zDl b).2.2.2,(zDl b).1,(zDl b).2.1))):=key
 rcases key' with ⟨hg,e⟩|⟨_,e⟩
 ·rw [e]
  simp only [Option.bind_some,Sum.elim_inl]
  rw [xS5 hl]
  unfold zDl
  rw [hg]
  simp only [Option.bind_some]
  cases yK1 b<;>rfl
 ·rw [e]
  rfl
end Go.Proofs.YtlhifcknhgmidaaGreatDoor.gg
