/- A part of our own proof. -/
import Derived.Test.YtlhifcknhgmidaaGreatDoorK4
import Derived.RowKit
import Derived.JoinedCond
import Derived.Carry
import Derived.Laws.StructEq
import Derived.Laws.Externs
import Derived.Lib.Overlaps
import Derived.Lib.Bytealg
namespace Go.GG
open Go.RowKit
def yB2 (P:Program) (go:TypeId→T→Bool):List Field→Nat→T→Bool
 | [],_,_=>false
 | [f],off,t=>f.offset==off&&go f.type t&&P.cellsOf f.type==t.cnt
 |f::g::r,off,t=>match t with
  | .pair a b=>f.offset==off&&go f.type a&&P.cellsOf f.type==a.cnt&&yB2 P go (g::r) (off+a.cnt) b
  |_=>false
def yXt (P:Program) (go:TypeId→T→Bool) (e:TypeId):Nat→T→Bool
 |0,_=>false
 |1,t=>go e t&&P.cellsOf e==t.cnt
 |n+2,t=>match t with
  | .pair a b=>go e a&&P.cellsOf e==a.cnt&&yXt P go e (n+1) b
  |_=>false
def yC0 (P:Program):Nat→TypeId→T→Bool
 |0,_,_=>false
 |n+1,t,s=>match P.underlying t with
  |some (.int k)=>(match s with| .int k'=>k==k'|_=>false)
  |some .bool=>(match s with| .bool=>true|_=>false)
  |some .string=>(match s with| .str=>true|_=>false)
  |some (.slice e)=>(match s with| .slice s'=>yC0 P n e s'&&P.cellsOf e==s'.cnt|_=>false)
  |some (.struct fs)=>P.cellsOf t==s.cnt&&yB2 P (yC0 P n) fs.toList 0 s
  |some (.array m e)=>P.cellsOf t==s.cnt&&yXt P (yC0 P n) e m s
  |_=>false
def T.wf:(t:T)→t.den→Prop
 | .int k,n=>k.min≤n∧n≤k.max
 | .bool,_=>True
 | .str,_=>True
 | .slice t,xs=>∀x∈xs,t.wf x
 | .opt _,_=>True
 | .pb,_=>True
 | .raw,_=>True
 | .ib,_=>True
 | .box _ _,_=>True
 | .pair a b,x=>a.wf x.1∧b.wf x.2
def T.bulk:(t:T)→t.den→Nat
 | .int _,_=>1
 | .bool,_=>1
 | .str,s=>s.length+1
 | .slice t,xs=>(xs.map t.bulk).sum+1
 | .opt _,_=>1
 | .pb,_=>1
 | .raw,_=>1
 | .ib,_=>1
 | .box _ _,_=>1
 | .pair a b,x=>a.bulk x.1+b.bulk x.2
structure yO3 (H:Type) where
 one:DataW H→Nat
 all:List (DataW H)→Nat
 nil:all []=0
 cons:∀d r,all (d::r)=one d+all r
 lit:∀l,1≤one (.lit l)
 str:∀s,one (.lit (.string s))=s.length+1
 none:one .nil=1
 slice:∀e s,one (.slice e s)=all e+all s+1
 agg:∀p,one (.agg p)=all p+1
section
variable {H:Type} {enc:TypeId×Value→H} {P:Program} {w:World} {spare:Nat→Bool}
inductive yQ9 {α β γ:Type} (R:α→β→γ→Prop):List α→List β→List γ→Prop
 |nil:yQ9 R [] [] []
 |cons {a b c as bs cs}:R a b c→yQ9 R as bs cs→yQ9 R (a::as) (b::bs) (c::cs)
theorem yU2 {α β γ:Type} {f:α→Option β} {R:α→β→γ→Prop}:∀ {l:List α} {ys:List β},l.mapM f=some ys→(∀a∈l,∀b,f a=some b→∃c,R a b c)→∃xs,yQ9 R l ys xs
 | [],ys,h,_=>by simp at h;subst h;exact ⟨[], .nil⟩
 |a::l,ys,h,hR=>by
  rw [List.mapM_cons] at h
  cases hfa:f a with
  |none=>rw [hfa] at h;simp at h
  |some b=>
   cases hfl:l.mapM f with
   |none=>rw [hfa,hfl] at h;simp at h
   |some bs=>
    rw [hfa,hfl] at h
    simp at h;subst h
    obtain ⟨c,hc⟩:=hR a (by simp) b hfa
    obtain ⟨cs,hcs⟩:=yU2 hfl (fun a' ha'=>hR a' (by simp [ha']))
    exact ⟨c::cs, .cons hc hcs⟩
theorem yQ9.get {α β γ:Type} {R:α→β→γ→Prop}:∀ {as:List α} {bs:List β} {cs:List γ},yQ9 R as bs cs→∀ {i:Nat} {c:γ},cs[i]? =some c→∃a b,as[i]? =some a∧bs[i]? =some b∧R a b c
 |_,_,_, .nil,i,c,h=>by simp at h
 |_,_,_, .cons h1 h2,i,c,h=>by
  cases i with
  |zero=>simp at h;subst h;exact ⟨_,_,rfl,rfl,h1⟩
  |succ i=>simp at h;obtain ⟨a,b,ha,hb,hr⟩:=h2.get h;exact ⟨a,b,by simpa using ha,by simpa using hb,hr⟩
theorem yQ9.len {α β γ:Type} {R:α→β→γ→Prop}:∀ {as:List α} {bs:List β} {cs:List γ},yQ9 R as bs cs→cs.length=as.length∧bs.length=as.length
 |_,_,_, .nil=>⟨rfl,rfl⟩
 |_,_,_, .cons _ h2=>by simp [h2.len]
theorem xB0 {a:Addr} {n:Nat} {cs:List Value} (h:w.cells? 0 a n=some cs):cs.length=n∧∀j,j<n→∃v,cs[j]? =some v∧w.cell? (a.add j)=some v:=by
 unfold World.cells? at h
 rw [if_pos (Nat.zero_le _)] at h
 obtain ⟨xs,hx⟩:=yU2 (R:=fun j v (_:Unit)=>w.cell? (a.add j)=some v) h (fun j _ v hv=>⟨(),hv⟩)
 have hl:=hx.len
 simp at hl
 refine ⟨hl.2,fun j hj=> ?_⟩
 have:xs[j]? =some ():=by rw [List.getElem?_eq_getElem (by omega)]
 obtain ⟨j',v,h1,h2,h3⟩:=hx.get this
 simp [List.getElem?_range hj] at h1
 subst h1
 exact ⟨v,h2,h3⟩
theorem xN4 {b o:Nat} {sp:Option Nat} {v:Value} (h:w.cell? ⟨b,o,sp⟩=some v):∃C e fr,w.heap[b]? =some (.cells C e fr)∧sp=none∧C[o]? =some v:=by
 unfold World.cell? at h
 split at h
 ·rename_i C e fr hb
  split at h
  ·simp at h
  ·rename_i hs
   exact ⟨C,e,fr,hb,by simpa using hs,h⟩
 ·simp at h
def yHg (w:World) (b:Nat):Prop:=b<w.heap.size
def xVa (w:World) (B:yO3 H) (t:T) (cs:List Value) (d:DataW H):Prop:=∃x:t.den,t.holds w (yHg w) x cs∧t.wf x∧t.bulk x≤B.one d
def xD9 (enc:TypeId×Value→H) (P:Program) (w:World) (spare:Nat→Bool) (B:yO3 H) (go:TypeId→T→Bool) (fuel:Nat):Prop:=
 ∀t s cs d ps,go t s=true→DataW.trod enc P w 0 spare true fuel t cs=some (d,ps)→xVa w B s cs d
theorem take_drop {α:Type} (l:List α) (off m n:Nat):(l.drop off).take (m+n)=(l.drop off).take m++(l.drop (off+m)).take n:=by
 rw [List.take_add,List.drop_drop]
theorem yXa {B:yO3 H} {go:TypeId→T→Bool} {fuel:Nat} (hgo:xD9 enc P w spare B go fuel) {cs:List Value}:∀ {fs:List Field} {off:Nat} {s:T} {ys:List (DataW H×List MemPlace)},yB2 P go fs off s=true→
 (fs.mapM fun f=>DataW.trod enc P w 0 spare true fuel f.type ((cs.drop f.offset).take (P.cellsOf f.type)))=some ys→
 ∃x:s.den,s.holds w (yHg w) x ((cs.drop off).take s.cnt)∧s.wf x∧s.bulk x≤B.all (ys.map (·.1))
 | [],_,_,_,h,_=>by simp [yB2] at h
 | [f],off,s,ys,h,hm=>by
   simp only [yB2,Bool.and_eq_true,beq_iff_eq] at h
   obtain ⟨⟨h1,h2⟩,h3⟩:=h
   simp only [List.mapM_cons,List.mapM_nil,Option.pure_def,Option.bind_eq_bind,Option.bind_some] at hm
   rw [Option.bind_eq_some_iff] at hm
   obtain ⟨⟨d,p⟩,hd,hm⟩:=hm
   simp at hm;subst hm
   obtain ⟨x,h4,h5,h6⟩:=hgo _ _ _ _ _ h2 hd
   rw [h1,h3] at h4
   refine ⟨x,h4,h5, ?_⟩
   simp only [List.map_cons,List.map_nil,B.cons,B.nil]
   omega
 |f::g::r,off,s,ys,h,hm=>by
  cases s
  case pair a b=>
   simp only [yB2,Bool.and_eq_true,beq_iff_eq] at h
   obtain ⟨⟨⟨h1,h2⟩,h3⟩,h4⟩:=h
   rw [List.mapM_cons] at hm
   simp only [Option.pure_def,Option.bind_eq_bind] at hm
   rw [Option.bind_eq_some_iff] at hm
   obtain ⟨⟨d,p⟩,hd,hm⟩:=hm
   rw [Option.bind_eq_some_iff] at hm
   obtain ⟨ys',hys,hm⟩:=hm
   simp at hm;subst hm
   obtain ⟨x,h5,h6,h7⟩:=hgo _ _ _ _ _ h2 hd
   obtain ⟨y,h8,h9,h10⟩:=yXa hgo h4 hys
   rw [h1,h3] at h5
   refine ⟨(x,y),⟨_,_,take_drop cs off a.cnt b.cnt,h5,h8⟩,⟨h6,h9⟩, ?_⟩
   simp only [List.map_cons,B.cons,T.bulk]
   omega
  all_goals simp [yB2] at h
theorem xHr {B:yO3 H} {go:TypeId→T→Bool} {fuel:Nat} (hgo:xD9 enc P w spare B go fuel) {cs:List Value} {e:TypeId}:∀ {n:Nat} {i:Nat} {s:T} {ys:List (DataW H×List MemPlace)},yXt P go e n s=true→
 ((List.range' i n).mapM fun j=>DataW.trod enc P w 0 spare true fuel e ((cs.drop (j*P.cellsOf e)).take (P.cellsOf e)))=some ys→
 ∃x:s.den,s.holds w (yHg w) x ((cs.drop (i*P.cellsOf e)).take s.cnt)∧s.wf x∧s.bulk x≤B.all (ys.map (·.1))
 |0,_,_,_,h,_=>by simp [yXt] at h
 |1,i,s,ys,h,hm=>by
  simp only [yXt,Bool.and_eq_true,beq_iff_eq] at h
  obtain ⟨h2,h3⟩:=h
  simp only [List.range'_one,List.mapM_cons,List.mapM_nil,Option.pure_def,Option.bind_eq_bind,Option.bind_some] at hm
  rw [Option.bind_eq_some_iff] at hm
  obtain ⟨⟨d,p⟩,hd,hm⟩:=hm
  simp at hm;subst hm
  obtain ⟨x,h4,h5,h6⟩:=hgo _ _ _ _ _ h2 hd
  rw [←h3]
  refine ⟨x,h4,h5, ?_⟩
  simp only [List.map_cons,List.map_nil,B.cons,B.nil]
  omega
 |n+2,i,s,ys,h,hm=>by
  cases s
  case pair a b=>
   simp only [yXt,Bool.and_eq_true,beq_iff_eq] at h
   obtain ⟨⟨h2,h3⟩,h4⟩:=h
   rw [List.range'_succ,List.mapM_cons] at hm
   simp only [Option.pure_def,Option.bind_eq_bind] at hm
   rw [Option.bind_eq_some_iff] at hm
   obtain ⟨⟨d,p⟩,hd,hm⟩:=hm
   rw [Option.bind_eq_some_iff] at hm
   obtain ⟨ys',hys,hm⟩:=hm
   simp at hm;subst hm
   obtain ⟨x,h5,h6,h7⟩:=hgo _ _ _ _ _ h2 hd
   obtain ⟨y,h8,h9,h10⟩:=xHr hgo h4 hys
   have e1:(i+1)*P.cellsOf e=i*P.cellsOf e+a.cnt:=by rw [Nat.add_mul,h3];omega
   rw [e1] at h8
   rw [h3] at h5
   have h3':i*P.cellsOf e=i*a.cnt:=by rw [h3]
   rw [h3'] at h8 ⊢
   refine ⟨(x,y),⟨_,_,take_drop cs (i*a.cnt) a.cnt b.cnt,h5,h8⟩,⟨h6,h9⟩, ?_⟩
   simp only [List.map_cons,B.cons,T.bulk]
   omega
  all_goals simp [yXt] at h
theorem xIs {B:yO3 H} {t:T} {R:Nat→DataW H×List MemPlace→t.den→Prop}:∀ {is:List Nat} {ys:List (DataW H×List MemPlace)} {xs:List t.den},yQ9 R is ys xs→(∀i y x,R i y x→t.bulk x≤B.one y.1)→(xs.map t.bulk).sum≤B.all (ys.map (·.1))
 |_,_,_, .nil,_=>by simp
 |_,_,_, .cons h1 h2,h=>by
  have:=xIs h2 h
  have:=h _ _ _ h1
  simp only [List.map_cons,List.sum_cons,B.cons]
  omega
theorem yT8 {B:yO3 H}:∀(n fuel:Nat),xD9 enc P w spare B (yC0 P n) fuel
 |0,_,t,s,cs,d,ps,h,_=>by simp [yC0] at h
 |n+1,0,t,s,cs,d,ps,_,h=>by simp [DataW.trod] at h
 |n+1,fuel+1,t,s,cs,d,ps,hf,h=>by
  have ih:=yT8 (B:=B) n fuel
  simp only [yC0] at hf
  split at hf
  ·
   rename_i k hu
   cases s<;>simp at hf
   subst hf
   unfold DataW.trod at h
   rw [hu] at h
   split at h
   case h_2 k' q n1 e1=>
    simp at e1;subst e1
    split at h
    ·rename_i hw
     obtain ⟨rfl,hw⟩:=hw
     simp only [Option.some.injEq,Prod.mk.injEq] at h
     obtain ⟨rfl,rfl⟩:=h
     simp only [Lit.wf,Bool.and_eq_true,decide_eq_true_eq] at hw
     exact ⟨n1,rfl,hw,B.lit _⟩
    ·simp at h
   all_goals (exfalso;simp_all)
  ·
   rename_i hu
   cases s<;>simp at hf
   unfold DataW.trod at h
   rw [hu] at h
   split at h
   case h_1 b e1=>
    simp only [Option.some.injEq,Prod.mk.injEq] at h
    obtain ⟨rfl,rfl⟩:=h
    exact ⟨b,rfl,trivial,B.lit _⟩
   all_goals (exfalso;simp_all)
  ·
   rename_i hu
   cases s<;>simp at hf
   unfold DataW.trod at h
   rw [hu] at h
   split at h
   case h_4 b e1=>
    split at h
    ·simp only [Option.some.injEq,Prod.mk.injEq] at h
     obtain ⟨rfl,rfl⟩:=h
     refine ⟨b.data.toList, ?_,trivial,by simp only [T.bulk,B.str];exact Nat.le_refl _⟩
     simp [T.holds]
    ·simp at h
   all_goals (exfalso;simp_all)
  ·
   rename_i e hu
   cases s<;>simp at hf
   rename_i s
   obtain ⟨hf,hcnt⟩:=hf
   unfold DataW.trod at h
   rw [hu] at h
   split at h
   case h_7 e' e1=>
    simp only [Option.some.injEq,Prod.mk.injEq] at h
    obtain ⟨rfl,rfl⟩:=h
    exact ⟨[],⟨none,0,rfl,Nat.le_refl _, .inl ⟨rfl,fun _=>rfl⟩⟩,by simp [T.wf],by simp [T.bulk,B.none]⟩
   case h_8 e' a len cap e1=>
    simp at e1;subst e1
    split at h
    ·rename_i hcap
     rw [Option.bind_eq_some_iff] at h
     obtain ⟨ys,hys,h⟩:=h
     rw [Option.map_eq_some_iff] at h
     obtain ⟨rest,_,h⟩:=h
     simp only [Prod.mk.injEq] at h
     obtain ⟨rfl,rfl⟩:=h
     obtain ⟨xs,hxs⟩:=yU2 (R:=fun i y (x:s.den)=>(∃ds,w.cells? 0 (a.add (i*P.cellsOf e)) (P.cellsOf e)=some ds∧s.holds w (yHg w) x ds)∧s.wf x∧s.bulk x≤B.one y.1) hys (fun i _ y hy=>by
      rw [Option.bind_eq_some_iff] at hy
      obtain ⟨ds,h1,h2⟩:=hy
      obtain ⟨x,h3,h4,h5⟩:=ih e s ds y.1 y.2 hf h2
      exact ⟨x,⟨ds,h1,h3⟩,h4,h5⟩)
     have hlen:xs.length=len:=by have:=hxs.len;simp at this;exact this.1
     refine ⟨xs, ?_,fun x hx=> ?_, ?_⟩
     ·refine ⟨some a,cap,by rw [hlen],by rw [hlen];exact hcap.2.1, ?_⟩
      by_cases hx0:xs= []
      ·exact .inl ⟨hx0,fun hh=>by cases hh⟩
      ·right
       have hpos:0<xs.length:=List.length_pos_iff.2 hx0
       have hcp:0<P.cellsOf e:=by rw [hcnt];exact zT6 s
       have first:∃v,w.cell? a=some v:=by
        obtain ⟨i,y,h1,h2,⟨ds,h3,_⟩,_⟩:=hxs.get (i:=0) (c:=xs[0]) (by simp [hpos])
        rw [List.getElem?_range (by omega)] at h1
        simp at h1;subst h1
        obtain ⟨_,h4⟩:=xB0 h3
        obtain ⟨v,_,h5⟩:=h4 0 hcp
        exact ⟨v,by simpa [Addr.add] using h5⟩
       obtain ⟨v,hv⟩:=first
       obtain ⟨b,o,sp⟩:=a
       obtain ⟨C,et,fr,hb,rfl,_⟩:=xN4 hv
       have hblt:b<w.heap.size:=by
        rcases Nat.lt_or_ge b w.heap.size with h1|h1
        ·exact h1
        ·rw [Array.getElem?_eq_none h1] at hb;simp at hb
       refine ⟨b,o,C,et,fr,rfl,hblt,hb,fun i x hi=> ?_⟩
       obtain ⟨i',y,h1,h2,⟨ds,h3,h4⟩,_⟩:=hxs.get hi
       have hil:i<len:=by
        rw [←hlen]
        rcases Nat.lt_or_ge i xs.length with h5|h5
        ·exact h5
        ·rw [List.getElem?_eq_none h5] at hi;simp at hi
       rw [List.getElem?_range hil] at h1
       simp at h1;subst h1
       refine ⟨ds,h4,fun j u hu=> ?_⟩
       obtain ⟨h5,h6⟩:=xB0 h3
       have hj:j<P.cellsOf e:=by
        rw [←h5]
        rcases Nat.lt_or_ge j ds.length with h7|h7
        ·exact h7
        ·rw [List.getElem?_eq_none h7] at hu;simp at hu
       obtain ⟨v',h7,h8⟩:=h6 j hj
       rw [hu] at h7;simp at h7;subst h7
       rw [vP,vP,yCh hb] at h8
       rw [←hcnt]
       exact h8
     ·obtain ⟨i,hi⟩:=List.getElem?_of_mem hx
      obtain ⟨_,_,_,_,_,h5,_⟩:=hxs.get hi
      exact h5
     ·have:=xIs (B:=B) hxs (fun i y x hr=>hr.2.2)
      simp only [T.bulk,B.slice]
      omega
    ·simp at h
   all_goals (exfalso;simp_all)
  ·
   rename_i fs hu
   simp only [Bool.and_eq_true,beq_iff_eq] at hf
   unfold DataW.trod at h
   rw [hu] at h
   split at h
   case h_9 fs' e1=>
    simp at e1;subst e1
    split at h
    ·rename_i hlen
     rw [Option.map_eq_some_iff] at h
     obtain ⟨ys,hys,h⟩:=h
     simp only [Prod.mk.injEq] at h
     obtain ⟨rfl,rfl⟩:=h
     obtain ⟨x,h1,h2,h3⟩:=yXa ih hf.2 hys
     rw [List.drop_zero,List.take_of_length_le (by omega)] at h1
     exact ⟨x,h1,h2,by rw [B.agg];omega⟩
    ·simp at h
   all_goals (exfalso;simp_all)
  ·
   rename_i m e hu
   simp only [Bool.and_eq_true,beq_iff_eq] at hf
   unfold DataW.trod at h
   rw [hu] at h
   split at h
   case h_10 m' e' e1=>
    simp at e1
    obtain ⟨rfl,rfl⟩:=e1
    split at h
    ·rename_i hlen
     rw [Option.map_eq_some_iff] at h
     obtain ⟨ys,hys,h⟩:=h
     simp only [Prod.mk.injEq] at h
     obtain ⟨rfl,rfl⟩:=h
     rw [List.range_eq_range'] at hys
     obtain ⟨x,h1,h2,h3⟩:=xHr ih hf.2 hys
     rw [Nat.zero_mul,List.drop_zero,List.take_of_length_le (by omega)] at h1
     exact ⟨x,h1,h2,by rw [B.agg];omega⟩
    ·simp at h
   all_goals (exfalso;simp_all)
  ·simp at hf
end
end Go.GG
namespace Go.GG
open Go.RowKit Go.ChangeShapes
def xC8 (P:Program) (t:TypeId):Bool:=match P.underlying t with
 |some (.struct _)=>true
 |some (.array _ _)=>true
 |_=>false
def xOe (P:Program):TypeId→PK→Bool
 |t, .imm s=> !xC8 P t&&yC0 P 12 t s
 |t, .agg s=>xC8 P t&&yC0 P 12 t s
 |_,_=>false
def yVz (P:Program):List TypeId→List PK→Bool
 | [], []=>true
 |t::ts,p::ps=>xOe P t p&&yVz P ts ps
 |_,_=>false
def PK.wf:(p:PK)→p.den→Prop
 | .imm t,x=>t.wf x
 | .agg t,x=>t.wf x
 |_,_=>True
def PK.bulk:(p:PK)→p.den→Nat
 | .imm t,x=>t.bulk x
 | .agg t,x=>t.bulk x
 |_,_=>0
def xHd:(ps:List PK)→RD PK.den ps→Prop
 | [],_=>True
 |p::ps,x=>p.wf (RD.hd (k:=p) x)∧xHd ps (RD.tl (k:=p) x)
def yH0:(ps:List PK)→RD PK.den ps→Nat
 | [],_=>0
 |p::ps,x=>p.bulk (RD.hd (k:=p) x)+yH0 ps (RD.tl (k:=p) x)
section
variable {H:Type} {enc:TypeId×Value→H} {P:Program} {W:World}
theorem xK4 {t:TypeId} {base:Nat} {v:Value} (hn:xC8 P t=false) {n:Nat} {s:T} (hf:yC0 P (n+1) t s=true) (hv:Value.okWide P W .any base t v):v.cells.toList= [v]:=by
 unfold xC8 at hn
 unfold Value.okWide at hv
 simp only [yC0] at hf
 cases hu:P.underlying t with
 |none=>rw [hu] at hf;simp at hf
 |some d=>
  rw [hu] at hn hv hf
  cases d<;>simp at hn hf
  all_goals
   simp only [Cell.okWide,hu,Cell.ok] at hv
   cases v<;>first|rfl|(simp at hv;done)
theorem xQx {t:TypeId} {base:Nat} {v:Value} (hn:xC8 P t=true) (hv:Value.okWide P W .any base t v):∃cs,v= .agg cs:=by
 unfold xC8 at hn
 unfold Value.okWide at hv
 split at hn
 ·rename_i hu;rw [hu] at hv;obtain ⟨cs,h,_⟩:=hv;exact ⟨cs,h⟩
 ·rename_i hu;rw [hu] at hv;obtain ⟨cs,h,_⟩:=hv;exact ⟨cs,h⟩
 ·simp at hn
theorem xFu {B:yO3 H} {base:Nat}:∀ {ts:List TypeId} {vs:List Value} {ds:List (DataW H)} {p:List MemPlace} {ps:List PK},DataW.TrodAll enc P W 0 (fun _=>true) true ts vs ds p→
 (∀(j:Nat) t v,ts[j]? =some t→vs[j]? =some v→Value.okWide P W .any base t v)→yVz P ts ps=true→
 ∃x,zTy P W (yHg W) ps x vs∧xHd ps x∧yH0 ps x≤B.all ds∧xJ W ps vs= []∧xP W ps vs= []∧zGq ps vs= []
 | [],vs,ds,p,ps,h,_,hf=>by
   cases ps with
   |cons q ps=>simp [yVz] at hf
   |nil=>
    cases vs with
    |cons v vs=>simp [DataW.TrodAll] at h
    |nil=>exact ⟨(),rfl,trivial,Nat.zero_le _,rfl,rfl,rfl⟩
 |t::ts,vs,ds,p,ps,h,hv,hf=>by
  cases ps with
  |nil=>simp [yVz] at hf
  |cons q ps=>
   cases vs with
   |nil=>simp [DataW.TrodAll] at h
   |cons v vs=>
    cases ds with
    |nil=>simp [DataW.TrodAll] at h
    |cons d ds=>
     simp only [DataW.TrodAll] at h
     obtain ⟨p1,q1,⟨fuel,h1⟩,h2,rfl⟩:=h
     simp only [yVz,Bool.and_eq_true] at hf
     have hv0:=hv 0 t v rfl rfl
     obtain ⟨y,h3,h4,h5,h6,h7,h7v⟩:=xFu (B:=B) h2 (fun j t' v' hj hj'=>hv (j+1) t' v' (by simpa using hj) (by simpa using hj')) hf.2
     cases q
     case imm s=>
      have hf1:=hf.1
      simp only [xOe,Bool.and_eq_true,Bool.not_eq_true'] at hf1
      rw [xK4 hf1.1 hf1.2 hv0] at h1
      obtain ⟨x,h8,h9,h10⟩:=yT8 (B:=B) 12 fuel _ _ _ _ _ hf1.2 h1
      refine ⟨RD.mk (k:=PK.imm s) x y,⟨v,vs,rfl,by rw [vQ];exact h8,by rw [xQ];exact h3⟩,⟨by rw [vQ];exact h9,by rw [xQ];exact h4⟩, ?_,h6,h7,h7v⟩
      simp only [yH0];rw [vQ,xQ,B.cons];simp only [PK.bulk];omega
     case agg s=>
      have hf1:=hf.1
      simp only [xOe,Bool.and_eq_true] at hf1
      obtain ⟨cs,rfl⟩:=xQx hf1.1 hv0
      obtain ⟨x,h8,h9,h10⟩:=yT8 (B:=B) 12 fuel _ _ _ _ _ hf1.2 h1
      refine ⟨RD.mk (k:=PK.agg s) x y,⟨_,vs,rfl,by rw [vQ];exact ⟨cs.toList,by simp,h8⟩,by rw [xQ];exact h3⟩,⟨by rw [vQ];exact h9,by rw [xQ];exact h4⟩, ?_,h6,h7,h7v⟩
      simp only [yH0];rw [vQ,xQ,B.cons];simp only [PK.bulk];omega
     all_goals simp [xOe] at hf
theorem xBs {W':World} (hl:laidOutB P=true) (hb:Below W.heap.size W W'):∀ {ts:List TypeId} {vs:List Value} {ds:List (DataW H)} {p:List MemPlace},(∀t∈ts,P.readableRec t=true∧t<P.types.size)→
 DataW.TrodAll enc P W 0 (fun _=>true) true ts vs ds p→(∀x∈p,x.block<W.heap.size)→DataW.TrodAll enc P W' 0 (fun b=>decide (b<W.heap.size)) true ts vs ds p
 | [], [], [],p,_,h,_=>h
 |t::ts,v::vs,d::ds,p,hr,h,hlt=>by
  obtain ⟨p1,q1,h1,h2,rfl⟩:=h
  exact ⟨p1,q1,Below.trod hl (hr t (by simp)).1 (hr t (by simp)).2 h1 hb (fun x hx=>hlt x (by simp [hx])),xBs hl hb (fun t' ht'=>hr t' (by simp [ht'])) h2 (fun x hx=>hlt x (by simp [hx])),rfl⟩
 | [],_::_,_,_,_,h,_=>by simp [DataW.TrodAll] at h
 | [], [],_::_,_,_,h,_=>by simp [DataW.TrodAll] at h
 |_::_, [],_,_,_,h,_=>by simp [DataW.TrodAll] at h
 |_::_,_::_, [],_,_,h,_=>by simp [DataW.TrodAll] at h
theorem xKu [yG] {f:FuncId} {fn:Func} {s:ChangeSpec} {ps:List PK} {F:Nat→RD PK.den ps→Option Bool} {tb:TypeId} (B:yO3 H) (hspec:zQ P f ⟨ps, [.imm .bool],F⟩)
 (hfits:yVz P fn.params.toList ps=true) (hvars:s.vars= []) (hres:fn.resultTypes= #[tb]) (htB:P.underlying tb=some .bool) (hl:laidOutB P=true)
 (hrec:(fn.params.toList.all fun t=>P.readableRec t&&decide (t<P.types.size))=true)
 {base:Nat} {args:Array Value} {ds gs:List (DataW H)} {before:List MemPlace}
 (hval:∀(j:Nat) t v,fn.params[j]? =some t→args[j]? =some v→Value.okWide P W .any base t v)
 (hW:DataW.Whole enc P fn.params.toList s.vars false W args.toList ds gs before)
 (hs:∀ds:List (DataW H),ds.length=fn.params.size→s.fn H ds= {results:= [.lit (.bool true)],args:=ds})
 (htb:yG.fine W (yHg W)) (law:∀x,xHd ps x→yH0 ps x≤B.all (ds++gs)→∃k,F k x=some true):
 Calls P f args W fun e W'=>∃v,e= .returned v∧s.post enc P fn false true false false W args v W':=by
 have hW':=hW
 obtain ⟨p,q,hA,hV,rfl,_,_⟩:=hW
 rw [hvars] at hV
 have hg:gs= []∧q= []:=by
  cases gs with
  |nil=>exact ⟨rfl,hV⟩
  |cons g gs=>simp [DataW.TrodVars] at hV
 obtain ⟨rfl,rfl⟩:=hg
 obtain ⟨x,h1,h2,h3,h4,h5,h5v⟩:=xFu (B:=B) hA (fun j t v hj hv=>hval j t v (by simpa using hj) (by simpa using hv)) hfits
 obtain ⟨k,hk⟩:=law x h2 (by simpa using h3)
 have hc:=hspec.2 k x true hk W (yHg W) args.toList (fun b hb=>hb) htb h1 (by rw [h4,h5v];exact List.nodup_nil) (by rw [h4];simp)
 simp only [Array.toArray_toList] at hc
 refine hc.mono ?_
 rintro e W' ⟨vs,he,hgo,_,_,hR⟩
 rw [h4] at hgo
 have hb:Below W.heap.size W W':=⟨hgo.os,hgo.tape,hgo.output,hgo.size,fun b hb=>hgo.block b hb (by simp)⟩
 obtain ⟨v,vs',rfl,h6,h7⟩:=hR
 simp only [vM] at h7
 obtain ⟨rfl,_⟩:=h7
 simp only [yFi,T.holds] at h6
 have hv:v= .bool true:=by
  have:RD.hd (K:=RK) (den:=RK.den) (k:=RK.imm T.bool) (r:= []) true=true:=rfl
  rw [this] at h6
  simpa using h6
 subst hv
 refine ⟨_,he, ?_⟩
 have hlen:ds.length=fn.params.size:=by
  have key:∀ {ts:List TypeId} {vs:List Value} {ds:List (DataW H)} {p:List MemPlace},DataW.TrodAll enc P W 0 (fun _=>true) true ts vs ds p→ds.length=ts.length:=by
   intro ts
   induction ts with
   |nil=>intro vs ds p h;cases vs<;>cases ds<;>simp [DataW.TrodAll] at h;rfl
   |cons t ts ih=>
    intro vs ds p h
    cases vs<;>cases ds<;>simp [DataW.TrodAll] at h
    obtain ⟨_,_,_,h,_⟩:=h
    simp [ih h]
  have:=key hA
  simpa using this
 have hfn:=hs (ds++ []) (by simpa using hlen)
 refine ⟨ds, [],p++ [], [],p, [],hW', ?_, ?_, ?_,hb.frame _,by simp⟩
 ·rw [hfn,hres]
  exact trodAll_mk1 (shut_bool htB true)
 ·rw [hfn]
  simp only [List.append_nil]
  refine xBs hl hb (fun t ht=> ?_) hA (fun m hm=> ?_)
  ·have:=List.all_eq_true.1 hrec t ht
   simpa using this
  ·have:=hW'.lt m (by simp [hm])
   simpa using this
 ·rw [hfn,hvars]
  rfl
end
end Go.GG
namespace Go.GG
section
variable {τ:yG} {P:Program}
theorem xQq:vI P []:=fun _ _ h=>by simp [Tab.get] at h
theorem yO {t:TypeId} {i:TI} {r:Tab} (h:TOk P t i) (hr:vI P r):vI P ((t,i)::r):=fun t' i' h'=>by
 simp only [Tab.get] at h'
 cases hb:Nat.beq t t' with
 |true=>rw [hb] at h';simp at h';subst h';rw [←Nat.eq_of_beq_eq_true hb];exact h
 |false=>rw [hb] at h';exact hr t' i' h'
def zM:List (Nat×zE)→Env
 | [],_=> []
 |(g,s)::r,f=>cond (Nat.beq g f) (s::zM r f) (zM r f)
theorem zH:zCy P (zM []):=fun _ _ h=>by simp [zM] at h
theorem yW1 {g:FuncId} {s:zE} {r:List (Nat×zE)} (h:(s.row=false→zQ P g s∨yZz P g s)∧(s.row=true→zUo P g s)) (hr:zCy P (zM r)):zCy P (zM ((g,s)::r)):=fun f s' h'=>by
 simp only [zM] at h'
 cases hb:Nat.beq g f with
 |true=>
  rw [hb] at h'
  simp at h'
  rcases h' with rfl|h'
  ·rw [←Nat.eq_of_beq_eq_true hb];exact h
  ·exact hr f s' h'
 |false=>rw [hb] at h';exact hr f s' h'
theorem zB {g:FuncId} {s:zE} {r:List (Nat×zE)} (h:zQ P g s) (hr:zCy P (zM r)) (hn:s.row=false:=by rfl):zCy P (zM ((g,s)::r)):=yW1 ⟨fun _=> .inl h,fun hh=>by rw [hn] at hh;cases hh⟩ hr
theorem zRd {g:FuncId} {s:zE} {r:List (Nat×zE)} (h:zUo P g s) (hr:zCy P (zM r)) (hn:s.row=true:=by rfl):zCy P (zM ((g,s)::r)):=yW1 ⟨fun hh=>(by rw [hn] at hh;cases hh),fun _=>h⟩ hr
end
end Go.GG
namespace Go.GG
open Go.RowKit
section
variable {P:Program} {w:World}
end
end Go.GG
namespace Go.GG
open Go.RowKit
section
variable {τ:yG} {P:Program}
theorem xR1 {f:FuncId} {ps:List PK} {rs:List RK} {F:Nat→RD PK.den ps→Option (RD RK.den rs)} (hr:yBy P f)
 (h:∀k x y,F k x=some y→∀(w:World) (ok:Nat→Prop) (vals:List Value),zTy P w ok ps x vals→
  ∃(ps':List PK) (F':Nat→RD PK.den ps'→Option (RD RK.den rs)) (x':RD PK.den ps'),zQ P f ⟨ps',rs,F'⟩∧F' k x'=some y∧zTy P w ok ps' x' vals∧xJ w ps' vals=xJ w ps vals∧xP w ps' vals=xP w ps vals∧zGq ps' vals=zGq ps vals):
 zQ P f ⟨ps,rs,F⟩:=by
 refine ⟨hr,fun k x y hy w ok0 vals hok htb hp hnd hpb=> ?_⟩
 obtain ⟨ps',F',x',h1,h2,h3,h4,h5,h6⟩:=h k x y hy w ok0 vals hp
 have:=h1.2 k x' y h2 w ok0 vals hok htb h3 (by simp only;rw [h4,h6];exact hnd) (by simp only;rw [h4];exact hpb)
 simp only [h4,h5] at this
 exact this
theorem xUj {w:World} {ok:Nat→Prop} {t:T} {xs:List t.den} {v:Value} (h:(T.slice t).holds w ok xs [v]):(v= .slice none 0 0∧xs= [])∨∃a n c,v= .slice (some a) n c:=by
 have h0:=h
 simp only [T.holds] at h
 obtain ⟨A,c,hv,_,h⟩:=h
 simp only [List.cons.injEq,and_true] at hv
 subst hv
 cases A with
 |some a=>exact .inr ⟨a,_,c,rfl⟩
 |none=>
  rcases h with ⟨rfl,hc⟩|⟨b,off,C,e,fr,hA,_⟩
  ·rw [hc rfl];exact .inl ⟨rfl,rfl⟩
  ·cases hA
theorem xFt {f:FuncId} {t:T} {post:List PK} {rs:List RK} {F:Nat→RD PK.den (.imm (.slice t)::post)→Option (RD RK.den rs)} {Fn:Nat→RD PK.den (.nils::post)→Option (RD RK.den rs)} {Fs:Nat→RD PK.den (.nnil t::post)→Option (RD RK.den rs)}
 (hn:zQ P f ⟨.nils::post,rs,Fn⟩) (hs:zQ P f ⟨.nnil t::post,rs,Fs⟩)
 (h1:∀k (xs:List t.den) (r:RD PK.den post),F k (RD.mk (k:=PK.imm (.slice t)) xs r)=Fs k (RD.mk (k:=PK.nnil t) xs r))
 (h2:∀k (r:RD PK.den post),F k (RD.mk (k:=PK.imm (.slice t)) [] r)=Fn k (RD.mk (k:=PK.nils) () r)):zQ P f ⟨.imm (.slice t)::post,rs,F⟩:=by
 have eta:∀(x:RD PK.den (.imm (.slice t)::post)),x=RD.mk (k:=PK.imm (.slice t)) (RD.hd (k:=PK.imm (.slice t)) x) (RD.tl (k:=PK.imm (.slice t)) x):=by
  intro x;cases post<;>rfl
 refine xR1 hn.1 fun k x y hy w ok vals hp=> ?_
 obtain ⟨v,vs',rfl,hv,hvs⟩:=hp
 rw [eta x] at hy
 rcases xUj hv with ⟨rfl,he⟩|⟨a,n,c,rfl⟩
 ·refine ⟨_,Fn,RD.mk (k:=PK.nils) () (RD.tl (k:=PK.imm (.slice t)) x),hn, ?_,⟨_,vs',rfl,rfl, ?_⟩,rfl,rfl,rfl⟩
  ·rw [←h2,←hy,he]
  ·rw [xQ];exact hvs
 ·refine ⟨_,Fs,RD.mk (k:=PK.nnil t) (RD.hd (k:=PK.imm (.slice t)) x) (RD.tl (k:=PK.imm (.slice t)) x),hs, ?_,⟨_,vs',rfl, ?_, ?_⟩,rfl,rfl,rfl⟩
  ·rw [←h1,←hy]
  ·rw [vQ];exact ⟨hv,a,n,c,rfl⟩
  ·rw [xQ];exact hvs
end
end Go.GG
namespace Go.GG
open Go.RowKit
section
variable {τ:yG} {P:Program}
end
end Go.GG
