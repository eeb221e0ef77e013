/- A part of our own proof. -/
import Derived.Test.YtlhifcknhgmidaaGreatDoorK7
import Derived.OrdersIn
import Derived.LoopNIn
import Derived.RangeFuncIn
import Derived.RangeFuncLeaves
import Derived.RangeFuncOwn
namespace Go.GG
open Go.RowKit
section
variable {τ:yG} {P:Program} {E:xI} {m:zO} {s:St} {a:Act} {w:World}
theorem xTp {dst:Option Nat} {c:Call} {k:Nat} {tab:Tab} (hT:vI P tab) {Γ:Env} (hΓ:zCy P Γ) (h:Rel P E m s a w) (hd:∀n,dst=some n→E.may n) (hn:yCt (.call c)=true→dst.isSome=true) {res:Res}
 (he:Ev (aop tab Γ k (dst.getD 0) (ev s) (.call c)) s.mem res) (hal:∀id∈res.allocs,s.used id=false∧id<zD)
 {ty:TypeId} {pos:String} {after:Array Edge} {guard:Option (Nat×Bool)}:wW P E ⟨dst, .call c,ty,pos,after,guard⟩ s a w res:=by
 have hl:=h.evals c.args.toList
 simp only [aop] at he
 split at he
 ·rename_i b hc
  by_cases hb1:b= .clear
  ·subst hb1
   cases hargs:c.args.toList.map (ev s) with
   |nil=>rw [hargs] at he;simp [zF9,zA] at he
   |cons l ls=>
    cases ls with
    |nil=>
     obtain ⟨x,hx,rfl⟩:=xM8 hargs
     rw [hargs] at he
     exact xBl hc hx hT h hd he
    |cons l' ls=>rw [hargs] at he;simp [zF9,zA] at he
  by_cases hb2:b= .copy
  ·subst hb2
   cases hargs:c.args.toList.map (ev s) with
   |nil=>rw [hargs] at he;simp [zF9,zA] at he
   |cons l ls=>
    cases ls with
    |nil=>rw [hargs] at he;simp [zF9,zA] at he
    |cons l' ls=>
     cases ls with
     |nil=>
      obtain ⟨x,y,hx,rfl,rfl⟩:=xNf hargs
      rw [hargs] at he
      exact xEu hc hx hT h hd he
     |cons l'' ls=>rw [hargs] at he;simp [zF9,zA] at he
  by_cases hb3:b= .delete
  ·subst hb3
   cases hargs:c.args.toList.map (ev s) with
   |nil=>rw [hargs] at he;simp [zF9,zA] at he
   |cons l ls=>
    cases ls with
    |nil=>rw [hargs] at he;simp [zF9,zA] at he
    |cons l' ls=>
     cases ls with
     |nil=>
      obtain ⟨x,y,hx,rfl,rfl⟩:=xNf hargs
      rw [hargs] at he
      exact xLs hc hx hT h hd he
     |cons l'' ls=>rw [hargs] at he;simp [zF9,zA] at he
  have:dst.isSome=true:=hn (by cases b<;>simp_all [yCt])
  obtain ⟨d,rfl⟩:=Option.isSome_iff_exists.1 this
  exact xIw hc hb3 hT h (hd d rfl) he hal
 ·rename_i f hc
  have hx:a.eval (.func f)= .func (.func f) #[] ([]:List Value).toArray:=rfl
  exact xFc h hΓ hc hx (by simpa using hl) he hal hd
 ·rename_i x hnf hc
  have hv:=h.eval x
  split at he
  ·rename_i f caps hx
   rw [hx] at hv
   obtain ⟨cvs,hv,hcap⟩:=hv
   exact xFc h hΓ hc hv (hl.append (xIn hcap)) he hal hd
  ·rename_i ps b p hx
   rw [hx] at hv
   split at he
   ·rename_i y hy
    rw [zFx] at he
    obtain ⟨z,hz,he⟩:=he
    rw [zC] at he;subst he
    exact xTw h hc hv hl hy hz hd
   ·simp [zA] at he
  ·simp [zA] at he
 ·simp [zA] at he
theorem yOo {A:Option Addr} (h:∀a,A=some a→∃b,a=⟨b,0,none⟩):A.map (·.add 0)=A:=by
 cases A with
 |none=>rfl
 |some a=>obtain ⟨b,rfl⟩:=h a rfl;simp [vP]
theorem yVa {ok:Nat→Prop} {t:T} {xs:List t.den} {A:Option Addr} {n c:Nat} (h:yN w ok t xs (.slice A n c)):∀a,A=some a→∃b,a=⟨b,0,none⟩:=by
 rintro a rfl
 rcases h with ⟨h1,_⟩|⟨b,C,e,fr,cap,h1,_⟩
 ·simp at h1
 ·simp only [Value.slice.injEq,Option.some.injEq] at h1
  exact ⟨b,h1.1⟩
theorem yX8 {len cap:Nat} {l h mx:Int} {lo hi:Option Value} {k'':IntKind} (h0:0≤l) (h1:l≤h) (h2:h≤mx) (h3:mx≤cap)
 (hlo:(lo=none∧l=0)∨∃k,lo=some (.int k l)) (hhi:∃k,hi=some (.int k h)):(Instr.sliceBounds true len cap lo hi (some (.int k'' mx))).run P w= .ok (l.toNat,h.toNat,mx.toNat) w:=by
 obtain ⟨k',rfl⟩:=hhi
 rcases hlo with ⟨rfl,rfl⟩|⟨k,rfl⟩<;>simp [Instr.sliceBounds]
 ·rw [vE (by omega) h3];simp only [Result.andThen_ok]
  rw [vE (by omega) (by omega)];simp
 ·rw [vE (by omega) h3]
  simp only [Result.andThen_ok]
  rw [vE (by omega) (by omega)]
  simp only [Result.andThen_ok]
  rw [vE h0 (by omega)];simp
theorem xSl (h:Rel P E m s a w) {t e:TypeId} {i ei:TI} (ht:TOk P t i) (hk:i.kind= .slice e) (hte:TOk P e ei) {lx:L} {vx:Value} {lo hi mx:Option L} {vlo vhi vmx:Option Value} {res:Res}
 (hiv:yS8 lx lo hi mx=true) (he:Ev (xKi ei.size lx lo hi mx) s.mem res) (hx:zL P w (zK E m s.mem w) m lx vx) (hlo:zBs P w (zK E m s.mem w) m lo vlo) (hhi:zBs P w (zK E m s.mem w) m hi vhi) (hmx:zBs P w (zK E m s.mem w) m mx vmx):
 ∃l v,res= .of l∧(Instr.sliceAt t vx vlo vhi vmx).run P w= .ok v w∧zL P w (zK E m s.mem w) m l v:=by
 obtain ⟨d,hd,hs⟩:=ht.desc
 rw [hk] at hs
 rw [vW hs] at hd
 unfold xKi at he
 split at he
 ·
  have hmn:mx=none:=by cases mx with|none=>rfl|some _=>simp [yS8] at hiv
  subst hmn
  cases vmx with
  |some _=>simp only [zBs] at hmx
  |none=>
  simp only [zJ,yA,zC,Bool.and_eq_true,beq_iff_eq] at he
  obtain ⟨l,hl,h',hh,⟨rfl,rfl⟩,rfl⟩:=he
  simp only [zL] at hx;subst hx
  refine ⟨_, .slice none 0 0,rfl, ?_,rfl⟩
  rw [zBd hd,zDk (P:=P) (l:=0) (h:=0) (by omega) (by omega) (by omega) (jJ hl hlo) (by rcases jJ hh hhi with ⟨h1,h2⟩|h1;exact .inl ⟨h1,by simp⟩;exact .inr h1)]
  simp [xY hte]
 ·
  rename_i r cnt lo0 n
  rw [zW] at he
  split at he
  ·rename_i t' xs c hr
   simp only [zJ] at he
   obtain ⟨l,hl,h',hh,he⟩:=he
   split at he
   case h_2 m0=>
    rcases zZ.1 he with ⟨his,he⟩|⟨_,he⟩
    case inr=>simp [zA] at he
    simp only [zJ,yA,zC,Bool.and_eq_true,decide_eq_true_eq] at he
    have hhi2:∃k,vhi=some (.int k h'):=by
     rcases jJ hh hhi with ⟨h1,_⟩|h1
     ·subst h1
      cases hi with
      |none=>simp at his
      |some _=>simp only [zBs] at hhi
     ·exact h1
    obtain ⟨m',hm',⟨⟨⟨hb1,hb2⟩,hb3⟩,hb4⟩,rfl⟩:=he
    obtain ⟨A,c1,k,hm,rfl,hk1⟩:=hx
    obtain ⟨im,h1,h2,_⟩:=h.mem _ _ hr
    rcases hm with hm|⟨n0,hm⟩<;>(rw [hm] at h1;simp at h1;subst h1;simp only [yM] at h2)
    obtain ⟨rfl,ho⟩:=h2
    cases vmx with
    |none=>simp only [zBs] at hmx
    |some vm=>
    obtain ⟨km,hvm⟩:=zF6 hm' hmx
    subst hvm
    obtain ⟨r,hr'⟩:∃r,(Instr.sliceBounds true n (c-lo0) vlo vhi (some (.int km m'))).run P w= .ok r w:=by
     refine ⟨_,yX8 (P:=P) (l:=l) (h:=h') hb1 hb2 hb3 (by omega) (jJ hl hlo) hhi2⟩
    have hex:∃v,(Instr.sliceAt t (Value.slice (Option.map (fun x=>x.add k) A) n (c-lo0)) vlo vhi (some (.int km m'))).run P w= .ok v w:=by
     rw [zBd hd,hr']
     simp only [Result.andThen_ok,xY hte]
     exact ⟨_,rfl⟩
    obtain ⟨v,hv⟩:=hex
    exact ⟨_,v,rfl,hv,trivial⟩
   simp only [yA,Bool.and_eq_true,decide_eq_true_eq] at he
   obtain ⟨⟨⟨hb1,hb2⟩,hb3⟩,he⟩:=he
   cases vmx with
   |some _=>simp only [zBs] at hmx
   |none=>
   rcases zZ.1 he with ⟨hsz,he⟩|⟨_,he⟩
   case inr=>simp [zA] at he
   rw [zC] at he;subst he
   simp only [Bool.and_eq_true] at hsz
   have hcnt:=Nat.eq_of_beq_eq_true hsz.2
   obtain ⟨A,c1,k,hm,rfl,hk1⟩:=hx
   obtain ⟨im,h1,h2,_⟩:=h.mem _ _ hr
   have hm0:=hm
   rcases hm with hm|⟨n0,hm⟩<;>(rw [hm] at h1;simp at h1;subst h1;simp only [yM] at h2)
   obtain ⟨rfl,ho⟩:=h2
   have hpl:=yVa ho
   refine ⟨_, .slice (A.map (·.add (if c-lo0=l.toNat then k else k+l.toNat*ei.size))) (h'.toNat-l.toNat) (c-(lo0+l.toNat)),rfl, ?_,A,c,_, .inl hm,rfl, ?_⟩
   ·rw [zBd hd,zDk (P:=P) (l:=l) (h:=h') hb1 hb2 (by omega) (jJ hl hlo) (jJ hh hhi)]
    simp only [Result.andThen_ok,xY hte]
    have e1:c-lo0-l.toNat=c-(lo0+l.toNat):=by omega
    rw [e1]
    have e2:(if c-lo0=l.toNat then A.map (·.add k) else (A.map (·.add k)).map (·.add (l.toNat*ei.size)))=A.map (·.add (if c-lo0=l.toNat then k else k+l.toNat*ei.size)):=by
     split
     ·rfl
     ·cases A with
      |none=>rfl
      |some ad=>obtain ⟨b,rfl⟩:=hpl ad rfl;simp [vP,Nat.add_assoc]
    rw [e2]
   ·by_cases hz:c-lo0=l.toNat
    ·by_cases hp:lo0+l.toNat=0
     ·obtain ⟨rfl,hl0⟩:lo0=0∧l.toNat=0:=by omega
      rw [if_pos hz,hl0]
      exact .inr (hk1.resolve_left (by omega))
     ·exact .inl (by omega)
    ·rw [if_neg hz]
     have:k=lo0*cnt:=hk1.resolve_left (by omega)
     right
     rw [this,←hcnt,Nat.add_mul]
  ·simp [zA] at he
 ·
  rename_i r
  have hhn:hi=none:=by
   cases lo<;>cases hi<;>simp [yS8] at hiv
   rfl
  subst hhn
  cases vhi with
  |some _=>simp only [zBs] at hhi
  |none=>
  have hmn:mx=none:=by cases lo<;>cases mx<;>simp [yS8] at hiv;rfl
  subst hmn
  cases vmx with
  |some _=>simp only [zBs] at hmx
  |none=>
  rw [zW] at he
  split at he
  ·rename_i t' xs hr
   simp only [zJ,yA,Bool.and_eq_true,decide_eq_true_eq] at he
   obtain ⟨l,hl,⟨hb1,hb2⟩,he⟩:=he
   rcases zZ.1 he with ⟨hsz,he⟩|⟨_,he⟩
   case inr=>simp [zA] at he
   rw [zC] at he;subst he
   have hcnt:=Nat.eq_of_beq_eq_true hsz
   obtain ⟨im,h1,h2,_⟩:=h.mem _ _ hr
   simp only [zL] at hx
   rw [h1] at hx
   rcases hx with hx|hx<;>(simp at hx;subst hx;simp only [yM] at h2)
   obtain ⟨A,c,rfl,hcl,_⟩:=zS9 h2
   have hpl:=yVa h2
   refine ⟨_, .slice (A.map (·.add (if c=l.toNat then 0 else l.toNat*ei.size))) (xs.length-l.toNat) (c-l.toNat),rfl, ?_,A,c,_, .inr ⟨_,h1⟩,rfl, ?_⟩
   ·rw [zBd hd,zDk (P:=P) (l:=l) (h:=(xs.length:Int)) hb1 hb2 (by omega) (jJ hl hlo) (.inl ⟨rfl,rfl⟩)]
    simp only [Result.andThen_ok,xY hte,Int.toNat_natCast]
    split
    ·rw [yOo hpl]
    ·rfl
   ·by_cases hz:c=l.toNat
    ·by_cases hp:l.toNat=0
     ·rw [if_pos hz,hp];exact .inr (Nat.zero_mul _).symm
     ·exact .inl ⟨hz,by omega⟩
    ·rw [if_neg hz,hcnt];exact .inr rfl
  ·simp [zA] at he
 ·simp [zA] at he
theorem xRn {dst:Nat} {t e:TypeId} {x y:Operand} {r:Nat} {i ei:TI} (h:Rel P E m s a w) (hd:E.may dst) (hid:s.used dst=false) (hlt:dst<zD) (ht:TOk P t i) (hk:i.kind= .slice e) (hte:TOk P e ei) (hxe:ev s x= .sref r) {res:Res}
 (he:Ev (xHi ei.size dst r (ev s y)) s.mem res)
 {ty:TypeId} {pos:String} {after:Array Edge} {guard:Option (Nat×Bool)}:wW P E ⟨some dst, .slice t x none (some y) none,ty,pos,after,guard⟩ s a w res:=by
 have hd':∀n,(some dst:Option Nat)=some n→E.may n:=by intro n hn;simp at hn;subst hn;exact hd
 obtain ⟨d,hdd,hs⟩:=ht.desc
 rw [hk] at hs
 rw [vW hs] at hdd
 have hX:=h.eval x
 rw [hxe] at hX
 unfold xHi at he
 rw [zW] at he
 split at he
 ·rename_i t' xs hr
  simp only [zJ,yA,Bool.and_eq_true,decide_eq_true_eq] at he
  obtain ⟨n,hn,⟨hb1,hb2⟩,he⟩:=he
  rcases zZ.1 he with ⟨_,he⟩|⟨hsz,he⟩
  ·simp [zA] at he
  rw [zC] at he;subst he
  obtain ⟨k',hy⟩:=zF6 hn (h.eval y)
  obtain ⟨im,h1,h2,_⟩:=h.mem _ _ hr
  simp only [zL] at hX
  rw [h1] at hX
  rcases hX with hX|hX<;>(simp at hX;subst hX;simp only [yM] at h2)
  obtain ⟨A,c,hv,hcl,_⟩:=zS9 h2
  rw [hv] at h2 h1
  have hpl:=yVa h2
  have hcut:cut xs 0 n=xs.take n.toNat:=by simp [cut]
  have hrun:(execOp a.eval ⟨some dst, .slice t x none (some y) none,ty,pos,after,guard⟩).run P w= .ok (.value (.slice A n.toNat c)) w:=by
   have:(Instr.sliceAt t (a.eval x) none (some (a.eval y)) none).run P w= .ok (.slice A n.toNat c) w:=by
    rw [hv,hy,zBd hdd,zDk (P:=P) (l:=0) (h:=n) (by omega) hb1 (by omega) (.inl ⟨rfl,rfl⟩) (.inr ⟨k',rfl⟩)]
    simp only [Result.andThen_ok,xY hte,Int.toNat_zero,Nat.zero_mul,Nat.sub_zero,yOo hpl,ite_self]
   simp [execOp,this]
  have hpre:=yZi h2 (k:=n.toNat) (by omega)
  rw [hcut]
  cases A with
  |none=>
   have hx0:xs= []:=by
    rcases h2 with ⟨_,hx⟩|⟨b,C,e',fr,cap,hbad,_⟩
    ·exact hx
    ·simp at hbad
   have hc0:c=0:=by
    rcases h2 with ⟨hx,_⟩|⟨b,C,e',fr,cap,hbad,_⟩
    ·simp at hx;exact hx.2
    ·simp at hbad
   subst hx0
   have hn0:n.toNat=0:=by simp at hb2;omega
   have hμ:∀r' c',zP [(r,none)] s.mem r'=some c'→s.mem r'=some c':=fun r' c' h'=>(zAd (by simp) h').1
   rw [hn0,hc0] at hrun
   refine zYa (gone:= [(r,none)]) rfl ?_
   have:=yPw (h.drop hμ) hd' hid hlt (t:=t') hrun
   simpa using this
  |some ad=>
   obtain ⟨b,rfl⟩:=hpl ad rfl
   obtain ⟨h5,h6⟩:=h.move (id:=dst) (w':=w) (c':= .arr t' (xs.take n.toNat)) (i':= .arr (.slice (some ⟨b,0,none⟩) n.toNat c)) hr h1 rfl hid hlt (fun _ _=>rfl) rfl rfl rfl rfl rfl (fun ok' m' hk' _=>hpre.mono hk' (fun _ _=>rfl))
   exact kP hd' hrun h5 (.inl h6)
 ·simp [zA] at he
theorem xRt {tab:Tab} (hT:vI P tab) {Γ:Env} (hΓ:zCy P Γ) {k:Nat} (h:Rel P E m s a w) {o:Oper} (hd:∀n,o.dst=some n→E.may n) (hn:yCt o.op=true→o.dst.isSome=true) {res:Res}
 (he:Ev (aop tab Γ k (o.dst.getD 0) (ev s) o.op) s.mem res) (hal:∀id∈res.allocs,s.used id=false∧id<zD):wW P E o s a w res:=by
 obtain ⟨dst,op,ty,pos,after,guard⟩:=o
 cases op
 case call c=>exact xTp hT hΓ h hd hn he hal
 case pick c x y=>exact xP9 h hd he
 case build t ps=>exact xNe hT h hd he
 case nilCheck x=>exact xGc h hd he
 case move x=>
  simp only [aop,zC] at he;subst he
  exact xE h hd (v:=a.eval x) (by simp [execOp]) (h.eval x)
 case assign x=>
  simp only [aop,zC] at he;subst he
  exact xE h hd (v:=a.eval x) (by simp [execOp]) (h.eval x)
 case alloc t=>
  obtain ⟨d,rfl⟩:=Option.isSome_iff_exists.1 (hn rfl)
  simp only [aop] at he
  obtain ⟨i,hi,he⟩:=wP he
  rw [zC] at he;subst he
  obtain ⟨h1,h2⟩:=hal d (by simp)
  exact xNq h (hd d rfl) h1 h2 (hT _ _ hi)
 case box t x=>
  obtain ⟨d,rfl⟩:=Option.isSome_iff_exists.1 (hn rfl)
  simp only [aop] at he
  rcases zZ.1 he with ⟨hp,he⟩|⟨_,he⟩
  case inr=>simp [zA] at he
  rw [zC] at he;subst he
  obtain ⟨h1,h2⟩:=hal d (by simp)
  exact xSf h (hd d rfl) h1 h2 (yMp h hp)
 case buildSlice t n ps=>
  obtain ⟨d,rfl⟩:=Option.isSome_iff_exists.1 (hn rfl)
  exact xIt hT h (hd d rfl) he hal
 case makeSlice t x y=>
  obtain ⟨d,rfl⟩:=Option.isSome_iff_exists.1 (hn rfl)
  exact xLo hT h (hd d rfl) he hal
 case load t x=>
  simp only [aop] at he
  obtain ⟨i,hi,he⟩:=wP he
  split at he
  ·rename_i r n hx
   rcases zZ.1 he with ⟨_,he⟩|⟨hagg,he⟩
   ·simp [zA] at he
   rw [zW] at he
   split at he
   case h_2=>simp [zA] at he
   rename_i l pin hr
   obtain ⟨d,rfl⟩:=Option.isSome_iff_exists.1 (hn rfl)
   exact xHx h (hd d rfl) (hT _ _ hi) hagg hx hr he hal
  ·obtain ⟨l,hl,rfl⟩:=zFo he
   obtain ⟨v,hv,hr⟩:=xRi h.memOk (hT _ _ hi) hl (h.eval x)
   exact xE h hd (by simp [execOp,hv]) hr
 case store t x y=>
  simp only [aop] at he
  obtain ⟨i,hi,he⟩:=wP he
  exact xN3 h hd (hT _ _ hi) he
 case binOp op t x y z=>
  simp only [aop] at he
  split at he
  ·rename_i hx hy
   rcases zZ.1 he with ⟨hk,he⟩|⟨_,he⟩
   case inr=>simp [zA] at he
   obtain ⟨l,hl,rfl⟩:=zFo he
   simp only [Bool.and_eq_true] at hk
   have hvx:=h.eval x
   have hvy:=h.eval y
   rw [hx] at hvx
   rw [hy] at hvy
   simp only [zL] at hvx hvy
   obtain ⟨v,hv,hr⟩:=xSs (P:=P) (w:=w) (m:=m) (ok:=zK E m s.mem w) hT (x:=x) (y:=y) hk.1 hk.2 hl
   rw [←hvx] at hv
   rw [show eqGuard op t x y (a.eval x) (a.eval x)=eqGuard op t x y (a.eval x) (a.eval y) by rw [hvx,hvy],show binOp op t (a.eval x) (a.eval x)=binOp op t (a.eval x) (a.eval y) by rw [hvx,hvy]] at hv
   exact xE h hd (by
    simp only [execOp,Sem.run_bind] at hv ⊢
    rw [hv];rfl) hr
  ·obtain ⟨l,hl,rfl⟩:=zFo he
   obtain ⟨v,hv,hr⟩:=xP0 h.memOk hT (x:=x) (y:=y) hl (h.eval x) (h.eval y)
   exact xE h hd (by
    simp only [execOp,Sem.run_bind] at hv ⊢
    rw [hv];rfl) hr
 case unOp op t x=>
  simp only [aop] at he
  obtain ⟨l,hl,rfl⟩:=zFo he
  obtain ⟨v,hv,hr⟩:=xRz hl (h.eval x)
  exact xE h hd (by simp [execOp,hv]) hr
 case convert src tgt x=>
  obtain ⟨d,rfl⟩:=Option.isSome_iff_exists.1 (hn rfl)
  simp only [aop] at he
  obtain ⟨i,hi,he⟩:=wP he
  obtain ⟨j,hj,he⟩:=wP he
  exact xI7 h (hd d rfl) hT (hT _ _ hi) (hT _ _ hj) he hal
 case slice t x lo hi mx=>
  simp only [aop] at he
  obtain ⟨i,hi',he⟩:=wP he
  have plain:Ev (yH2 tab i (ev s x) (lo.map (ev s)) (hi.map (ev s)) (mx.map (ev s))) s.mem res→wW P E ⟨dst, .slice t x lo hi mx,ty,pos,after,guard⟩ s a w res:=by
   intro he
   obtain ⟨h1,h2,v,hv,hr⟩:=xPc h hT (hT _ _ hi') he (h.eval x) (h.evalOpt lo) (h.evalOpt hi) (h.evalOpt mx)
   have hμ:∀r c,zP res.edits s.mem r=some c→s.mem r=some c:=fun r c hc=>(zAd h2 hc).1
   refine kP (m':=m) (w':=w) (v:=v) hd (by simp [execOp,hv]) ?_ hr
   rw [h1]
   exact h.drop hμ
  split at he
  ·rename_i e hk
   obtain ⟨ei,hei,he⟩:=wP he
   rcases zZ.1 he with ⟨hiv,he2⟩|⟨hnv,he2⟩
   ·obtain ⟨l,v,hres,hv,hr⟩:=xSl h (hT _ _ hi') hk (hT _ _ hei) hiv he2 (h.eval x) (h.evalOpt lo) (h.evalOpt hi) (h.evalOpt mx)
    rw [hres]
    exact xE h hd (v:=v) (by simp [execOp,hv]) hr
   ·replace he:=he2
    clear he2
    have deep:∀ {r:Nat},ev s x= .dref r→mx=none→Ev (cond (Nat.beq ei.size 1&&((lo.map (ev s)).isSome||(hi.map (ev s)).isSome)) (yKz (dst.getD 0) r (lo.map (ev s)) (hi.map (ev s))) .fail) s.mem res→wW P E ⟨dst, .slice t x lo hi mx,ty,pos,after,guard⟩ s a w res:=by
     intro r hx hmx hq
     subst hmx
     rcases zZ.1 hq with ⟨hc,hq⟩|⟨_,hq⟩
     case inr=>simp [zA] at hq
     simp only [Bool.and_eq_true] at hc
     obtain ⟨d,rfl⟩:=Option.isSome_iff_exists.1 (hn (by cases lo<;>cases hi<;>first|rfl|(simp at hc)))
     exact xC1 h (hd d rfl) hT (hT _ _ hi') hk (hT _ _ hei) (Nat.eq_of_beq_eq_true hc.1) hx hq hal
    cases lo<;>cases hi<;>cases mx<;>(split at he)<;>first|exact plain he|(rename_i r a b hx _ _ _;simp_all;done)|skip
    all_goals rename_i h1 h2 h3 h4
    all_goals first|(simp at h2;done)|(simp at h3;done)|(simp at h4;done)|skip
    simp only [Option.map_some,Option.some.injEq] at h3
    subst h3
    rw [zW] at he
    split at he
    ·obtain ⟨d,rfl⟩:=Option.isSome_iff_exists.1 (hn rfl)
     have hal':s.used d=false∧d<zD:=by
      refine hal d ?_
      unfold xHi at he
      rw [zW] at he
      split at he
      ·simp only [zJ,yA] at he
       obtain ⟨_,_,_,he⟩:=he
       rcases zZ.1 he with ⟨_,he⟩|⟨_,he⟩
       ·simp [zA] at he
       ·rw [zC] at he;subst he;simp
      ·simp [zA] at he
     exact xRn (x:=x) h (hd d rfl) hal'.1 hal'.2 (hT _ _ hi') hk (hT _ _ hei) h1 he
    ·exact plain he
  ·exact plain he
 case fieldAddr t x f=>
  simp only [aop] at he
  obtain ⟨i,hi,he⟩:=wP he
  split at he
  ·rename_i fs hk
   split at he
   ·rename_i ft o hf
    obtain ⟨fi,hfi,he⟩:=wP he
    rcases zZ.1 he with ⟨_,he⟩|⟨hz,he⟩
    ·simp [zA] at he
    obtain ⟨l,hl,rfl⟩:=zFo he
    obtain ⟨v,hv,hr⟩:=xG1 (hT _ _ hi) hk hf (hT _ _ hfi) (by intro e;simp [e] at hz) hl (h.eval x)
    exact xE h hd (by simp [execOp,hv]) hr
   ·simp [zA] at he
  ·simp [zA] at he
 case field t x f=>
  simp only [aop] at he
  obtain ⟨i,hi,he⟩:=wP he
  split at he
  ·rename_i fs hk
   split at he
   ·rename_i ft o ls hf hx
    obtain ⟨fi,hfi,he⟩:=wP he
    obtain ⟨l,hl,rfl⟩:=zFo he
    have hv:=h.eval x
    rw [hx] at hv
    obtain ⟨v,hv,hr⟩:=xO4 (hT _ _ hi) hk hf (hT _ _ hfi) hl hv
    exact xE h hd (by simp [execOp,hv]) hr
   ·simp [zA] at he
  ·simp [zA] at he
 case indexAddr t x y=>
  simp only [aop] at he
  obtain ⟨i,hi,he⟩:=wP he
  split at he
  ·rename_i e hk
   obtain ⟨ei,hei,he⟩:=wP he
   obtain ⟨l,hl,rfl⟩:=zFo he
   obtain ⟨v,hv,hr⟩:=xGy h.memOk (hT _ _ hi) hk (hT _ _ hei) hl (h.eval x) (h.eval y)
   exact xE h hd (by simp [execOp,hv]) hr
  ·rename_i len e hk
   obtain ⟨ei,hei,he⟩:=wP he
   obtain ⟨l,hl,rfl⟩:=zFo he
   obtain ⟨v,hv,hr⟩:=xKm h.fine (hT _ _ hi) hk (hT _ _ hei) hl (h.eval x) (h.eval y)
   exact xE h hd (by simp [execOp,hv]) hr
  ·simp [zA] at he
 case index t x y=>
  simp only [aop] at he
  obtain ⟨i,hi,he⟩:=wP he
  have hvx:=h.eval x
  split at he
  ·rename_i st hk hx
   rw [hx] at hvx
   have hvx:=zGk hvx
   simp only [zJ,zFx,zC] at he
   obtain ⟨n,hn,b,hb,rfl⟩:=he
   obtain ⟨k',hvy⟩:=zF6 hn (h.eval y)
   have:=xGm (w:=w) (k:=k') (hT _ _ hi) hk hb
   exact xE h hd (v:= .int .u8 b.toNat) (by simp [execOp,hvx,hvy,this]) (zEm _ _)
  ·rename_i len e ls hk hx
   rw [hx] at hvx
   obtain ⟨vs,hvx,hls⟩:=hvx
   split at he
   ·rename_i k' n hy
    obtain ⟨ei,hei,he⟩:=wP he
    rw [yA] at he
    obtain ⟨hb,he⟩:=he
    obtain ⟨l,hl,rfl⟩:=zFo he
    have hvy:=h.eval y
    rw [hy] at hvy
    have hvy:=zGh hvy
    simp only [Bool.and_eq_true,decide_eq_true_eq] at hb
    obtain ⟨v,hv,hr⟩:=xFz (k:=k') (hT _ _ hi) hk (hT _ _ hei) hls hb.1 hb.2 hl
    exact xE h hd (by simp [execOp,hvx,hvy,hv]) hr
   ·simp [zA] at he
  ·simp [zA] at he
 case extract t n=>
  simp only [aop] at he
  have hv:=h.eval t
  split at he
  ·rename_i ls hx
   rw [hx] at hv
   obtain ⟨vs,hv,hls⟩:=hv
   split at he
   ·rename_i l hl
    rw [zC] at he;subst he
    obtain ⟨v,h1,h2⟩:=hls.get hl
    exact xE h hd (v:=v) (by simp [execOp,hv,Instr.extract,h1]) h2
   ·simp [zA] at he
  ·simp [zA] at he
 case makeFunc fn first caps=>
  simp only [aop] at he
  split at he
  ·rename_i f hfirst
   split at he
   ·rename_i cs hcs
    rw [zC] at he;subst he
    have hf:first= #[]:=by apply Array.ext';simpa using hfirst
    have hc:=yW6 hcs (h.evals caps.toList)
    refine xE h hd (v:= .func (.func f) #[] (caps.map a.eval)) (by simp [execOp,Instr.makeFunc,hf]) ⟨_, ?_,hc⟩
    congr 1
    apply Array.ext';simp
   ·simp [zA] at he
  ·simp [zA] at he
 case makeMap t r=>
  obtain ⟨d,rfl⟩:=Option.isSome_iff_exists.1 (hn rfl)
  cases r with
  |none=>
   simp only [aop] at he
   exact xIa h (hd d rfl) he hal
  |some x=>simp only [aop] at he;simp [zA] at he
 case lookup t x y c=>
  obtain ⟨d,rfl⟩:=Option.isSome_iff_exists.1 (hn rfl)
  simp only [aop] at he
  rcases zZ.1 he with ⟨hp,he⟩|⟨_,he⟩
  ·exact xGd h (hd d rfl) hT hp he hal
  cases c with
  |true=>simp only [cond_true] at he;simp [zA] at he
  |false=>
   simp only [cond_false] at he
   obtain ⟨l,hl,rfl⟩:=zFo he
   obtain ⟨v,hv,hr⟩:=xN6 h hT hl (h.eval x) (h.eval y)
   exact xE h hd (by simp [execOp,hv]) hr
 case mapUpdate t x y z=>
  simp only [aop] at he
  rcases zZ.1 he with ⟨hp,he⟩|⟨_,he⟩
  ·exact xGq h hd hT hp he
  exact xB9 h hd hT he
 all_goals (simp only [aop] at he;simp [zA] at he)
end
end Go.GG
namespace Go.GG
open Go.RowKit
section
variable {τ:yG} {tab:Tab} {Γ:Env} {k:Nat}
theorem xE7 {α β:Type} {x:Array α} {f g:α→β} (h:∀a∈x,f a=g a):x.toList.map f=x.toList.map g:=List.map_congr_left fun a ha=>h a (by simpa using ha)
theorem xQc {d:Nat} {ρ ρ':Operand→L} {op:Op} (h:∀x∈op.operands,ρ x=ρ' x):aop tab Γ k d ρ op=aop tab Γ k d ρ' op:=by
 have parts:∀ps:Array (Nat×Operand),(∀x∈ps.map (·.2),ρ x=ρ' x)→(ps.toList.map fun p=>(p.1,ρ p.2))=(ps.toList.map fun p=>(p.1,ρ' p.2)):=fun ps hp=>
  List.map_congr_left fun p hm=>by rw [hp p.2 (Array.mem_map.2 ⟨p,by simpa using hm,rfl⟩)]
 have plain:∀ps:Array (Nat×Operand),(∀x∈ps.map (·.2),ρ x=ρ' x)→(ps.toList.all fun p=>(ρ p.2).plain)=(ps.toList.all fun p=>(ρ' p.2).plain):=fun ps hp=>by
  rw [Bool.eq_iff_iff,List.all_eq_true,List.all_eq_true]
  exact ⟨fun hh p hm=>by rw [←hp p.2 (Array.mem_map.2 ⟨p,by simpa using hm,rfl⟩)];exact hh p hm,fun hh p hm=>by rw [hp p.2 (Array.mem_map.2 ⟨p,by simpa using hm,rfl⟩)];exact hh p hm⟩
 cases op<;>simp only [Op.operands] at h<;>simp only [aop]
 case build t ps=>rw [parts ps fun x hx=>h x (by simpa using hx),plain ps fun x hx=>h x (by simpa using hx)]
 case buildSlice t n ps=>rw [parts ps fun x hx=>h x (by simpa using hx),plain ps fun x hx=>h x (by simpa using hx)]
 case makeFunc fn first captured=>rw [xE7 (x:=captured) fun x hx=>h x (by simp [hx])]
 case call c=>
  have ha:c.args.toList.map ρ=c.args.toList.map ρ':=xE7 fun x hx=>h x (by simp [Call.operands,hx])
  rw [ha]
  cases hc:c.callee with
  |builtin b=>rfl
  |invoke r n=>rfl
  |value x=>
   have hx:ρ x=ρ' x:=h x (by simp [Call.operands,hc])
   cases x<;>simp only [hx]
 case makeMap t r=>cases r<;>rfl
 case lookup t x y c=>
  have hx:=h x (by simp)
  have hy:=h y (by simp)
  cases c<;>simp only [aop,hx,hy]
 case slice t x lo hi mx=>cases lo<;>cases hi<;>cases mx<;>simp_all
 all_goals (first|rfl|(simp_all;done))
def xHc (ops:Array Oper) (s:St) (o:Oper):Prop:=∀j want,o.guard=some (j,want)→∃d,yQ1 ops.toList j=some d∧s.env d= .val .bool want
def xHh (ops:Array Oper) (s:St) (o:Oper):Prop:=∃j want d,o.guard=some (j,want)∧yQ1 ops.toList j=some d∧(s.env d= .val .bool (!want)∨s.env d= .skipped)
def xNt [yG] (tab:Tab) (Γ:Env) (k:Nat) (o:Oper) (s:St) (f:zF1) (s':St):Prop:=∃res rs,(aop tab Γ k (o.dst.getD 0) (ev s) o.op).ev s.mem=some (res,rs)∧(∀r∈rs,r∈f.reads)∧f.writes=res.edits.map (·.1)++res.allocs∧
 (∀id∈res.allocs,s.used id=false∧id<zD)∧(yCt o.op=true→o.dst.isSome=true)∧s'=apply s o.dst res
def yE3 [yG] (tab:Tab) (Γ:Env) (k:Nat) (ops:Array Oper) (i:Nat) (s:St) (fs:List zF1) (s':St):Prop:=∃o,ops[i]? =some o∧
 ((xHc ops s o∧∃f,f.i=i∧fs= [f]∧xNt tab Γ k o s f s')∨(xHh ops s o∧fs= []∧s'=put s o.dst .skipped))
inductive yS1 [yG] (tab:Tab) (Γ:Env) (k:Nat) (ops:Array Oper):List Nat→St→List zF1→St→Prop
 |nil (s:St):yS1 tab Γ k ops [] s [] s
 |cons {i:Nat} {l:List Nat} {s s' s'':St} {fs gs:List zF1}:yE3 tab Γ k ops i s fs s'→yS1 tab Γ k ops l s' gs s''→yS1 tab Γ k ops (i::l) s (fs++gs) s''
theorem xI6 {s:St} {d:Nat} {l:L} (h:s.env d=l):put s (some d) l=s:=by
 subst h
 have:(fun t=>cond (Nat.beq t d) (s.env d) (s.env t))=s.env:=by
  funext t
  cases hb:Nat.beq t d with
  |true=>rw [Nat.eq_of_beq_eq_true hb];rfl
  |false=>rfl
 show ({s with env:=fun t=>cond (Nat.beq t d) (s.env d) (s.env t)}:St)=s
 rw [this]
theorem yTa {R:Type} {i:Nat} {o:Oper} {s:St} {K:St→zF1→Option R} {r:R} (h:yH8 tab Γ k i o s K=some r):∃f s',f.i=i∧xNt tab Γ k o s f s'∧K s' f=some r:=by
 unfold yH8 at h
 obtain ⟨res,r1,r2,h1,h2,h3,_⟩:=RM.run_ev h
 cases hc:((res.allocs.all fun a=> !s.used a&&Nat.blt a zD)&&(!yCt o.op||o.dst.isSome)) with
 |false=>rw [hc] at h2;simp at h2
 |true=>
  rw [hc] at h2
  simp only [Bool.and_eq_true,List.all_eq_true,Bool.not_eq_true',Bool.or_eq_true] at hc
  refine ⟨_,_,rfl,⟨res,r1,h1,h3,rfl,fun id hid=>⟨(hc.1 id hid).1,Nat.le_of_ble_eq_true (hc.1 id hid).2⟩,fun hn=> ?_,rfl⟩,h2⟩
  rcases hc.2 with h4|h4
  ·rw [hn] at h4;simp at h4
  ·exact h4
theorem xOa {R:Type} {ops:Array Oper} {i:Nat} {o:Oper} (ho:ops[i]? =some o) {s:St} {K:St→List zF1→Option R} {r:R} (h:xNz tab Γ k ops.toList i o s K=some r):
 ∃fs s',yE3 tab Γ k ops i s fs s'∧K s' fs=some r:=by
 unfold xNz at h
 split at h
 ·rename_i hg
  obtain ⟨f,s',h1,h2,h3⟩:=yTa h
  exact ⟨[f],s',⟨o,ho, .inl ⟨fun j want hh=>by rw [hg] at hh;simp at hh,f,h1,rfl,h2⟩⟩,h3⟩
 ·rename_i j want hg
  split at h
  ·simp at h
  ·rename_i d hd
   have skip:s.env d= .val .bool (!want)∨s.env d= .skipped→K (put s o.dst .skipped) []=some r→∃fs s',yE3 tab Γ k ops i s fs s'∧K s' fs=some r:=
    fun he hk=>⟨[],_,⟨o,ho, .inr ⟨⟨j,want,d,hg,hd,he⟩,rfl,rfl⟩⟩,hk⟩
   have run:s.env d= .val .bool want→yH8 tab Γ k i o s (fun s f=>K s [f])=some r→∃fs s',yE3 tab Γ k ops i s fs s'∧K s' fs=some r:=by
    intro he hk
    obtain ⟨f,s',h1,h2,h3⟩:=yTa hk
    refine ⟨[f],s',⟨o,ho, .inl ⟨fun j' want' hh=> ?_,f,h1,rfl,h2⟩⟩,h3⟩
    rw [hg] at hh
    simp at hh
    obtain ⟨rfl,rfl⟩:=hh
    exact ⟨d,hd,he⟩
   split at h
   ·rename_i b hb
    cases b with
    |true=>
     rw [xI6 hb] at h
     cases want with
     |true=>exact run hb h
     |false=>exact skip (.inl hb) h
    |false=>
     rw [xI6 hb] at h
     cases want with
     |true=>exact skip (.inl hb) h
     |false=>exact run hb h
   ·rename_i hb
    exact skip (.inr hb) h
   ·simp at h
theorem xJx {R:Type} {ops:Array Oper}:∀ {rest:List Oper} {i:Nat} {s:St} {fs:List zF1} {K:St→List zF1→Option R} {r:R},(∀j,rest[j]? =ops[i+j]?)→xIi tab Γ k ops.toList i rest s fs K=some r→
 ∃gs s',yS1 tab Γ k ops (List.range' i rest.length) s gs s'∧K s' (gs.reverse++fs)=some r
 | [],i,s,fs,K,r,_,h=>⟨[],s, .nil s,by simpa [xIi] using h⟩
 |o::rest,i,s,fs,K,r,hr,h=>by
  simp only [xIi] at h
  have ho:ops[i]? =some o:=by have:=hr 0;simpa using this.symm
  obtain ⟨f,s1,h1,h2⟩:=xOa ho h
  obtain ⟨gs,s2,h3,h4⟩:=xJx (ops:=ops) (rest:=rest) (fun j=>by have:=hr (j+1);simpa [Nat.add_assoc,Nat.add_comm 1 j] using this) h2
  have hf:f.reverse=f:=by
   obtain ⟨_,_,⟨_,_,_,rfl,_⟩|⟨_,rfl,_⟩⟩:=h1<;>rfl
  refine ⟨f++gs,s2, .cons h1 h3, ?_⟩
  rw [List.reverse_append,hf,List.append_assoc]
  exact h4
end
end Go.GG
namespace Go.GG
open Go.RowKit
section
variable {τ:yG} {tab:Tab} {Γ:Env} {k:Nat} {ops:Array Oper}
theorem yPp:∀ {es:List (Nat×Option C)} {μ μ':Nat→Option C} {r:Nat},(r∈es.map (·.1)∨μ r=μ' r)→zP es μ r=zP es μ' r
 | [],_,_,_,h=>by simpa [zP] using h
 |(a,c)::es,μ,μ',r,h=>by
  simp only [zP]
  apply yPp
  by_cases e:r=a
  ·subst e;right;simp
  ·simp only [List.map_cons,List.mem_cons,e,false_or] at h
   rcases h with h|h
   ·exact .inl h
   ·right;rw [h]
theorem xKd {es fs:List (Nat×Option C)} {μ:Nat→Option C} (h:∀r,r∈es.map (·.1)→r∉fs.map (·.1)):zP es (zP fs μ)=zP fs (zP es μ):=by
 funext r
 by_cases he:r∈es.map (·.1)
 ·rw [zI7 (es:=fs) (h r he)]
  exact yPp (.inl he)
 ·rw [zI7 (es:=es) he]
  exact yPp (.inr (zI7 he).symm)
theorem yHb:∀ {ids:List Nat} {u:Nat→Bool} {r:Nat},jY ids u r=(decide (r∈ids)||u r)
 | [],_,_=>by simp [jY]
 |i::ids,u,r=>by
  simp only [jY,yHb (ids:=ids)]
  by_cases e:r=i
  ·subst e;simp
  ·have:Nat.beq r i=false:=by
    cases hb:Nat.beq r i with
    |false=>rfl
    |true=>exact absurd (Nat.eq_of_beq_eq_true hb) e
   simp [this,e]
theorem xJ8 {is js:List Nat} {u:Nat→Bool}:jY is (jY js u)=jY js (jY is u):=by
 funext r
 simp only [yHb]
 cases decide (r∈is)<;>cases decide (r∈js)<;>simp
theorem yRq {s:St} {d:Option Nat} {l:L} {t:Nat} (h:d≠some t):(put s d l).env t=s.env t:=by
 cases d with
 |none=>rfl
 |some d=>
  have:Nat.beq t d=false:=by
   cases hb:Nat.beq t d with
   |false=>rfl
   |true=>exact absurd (by rw [Nat.eq_of_beq_eq_true hb]) h
  simp [put,this]
theorem yVr {s:St} {d:Option Nat} {l:L}:(put s d l).mem=s.mem:=by cases d<;>rfl
theorem yO6 {s:St} {d:Option Nat} {l:L}:(put s d l).used=s.used:=by cases d<;>rfl
theorem xAk {s s':St} (h1:s.env=s'.env) (h2:s.mem=s'.mem) (h3:s.used=s'.used):s=s':=by
 cases s;cases s';simp only at h1 h2 h3;subst h1;subst h2;subst h3;rfl
theorem yPf {s:St} {d e:Option Nat} {l l':L} (h:∀t,d=some t→e≠some t):put (put s d l) e l'=put (put s e l') d l:=by
 cases d with
 |none=>rfl
 |some d=>
  cases e with
  |none=>rfl
  |some e=>
   have hne:d≠e:=fun x=>h d rfl (by rw [x])
   refine xAk ?_ rfl rfl
   funext t
   simp only [put]
   cases h1:Nat.beq t e with
   |false=>rfl
   |true=>
    cases h2:Nat.beq t d with
    |false=>rfl
    |true=>exact absurd ((Nat.eq_of_beq_eq_true h2).symm.trans (Nat.eq_of_beq_eq_true h1)) hne
theorem zV9 {s s':St} {d:Option Nat} {l:L} (h:s.env=s'.env):(put s d l).env=(put s' d l).env:=by
 cases d with
 |none=>exact h
 |some d=>funext t;simp only [put,h]
theorem zEe {s:St} {d:Option Nat} {r:Res}:(apply s d r).env=(put s d r.val).env:=by cases d<;>rfl
theorem yD3 {s:St} {d:Option Nat} {r:Res}:(apply s d r).mem=zP r.edits s.mem:=by cases d<;>rfl
theorem yAc {s:St} {d:Option Nat} {r:Res}:(apply s d r).used=jY r.allocs s.used:=by cases d<;>rfl
theorem xGj {o:Oper} {t:Nat} (h:(Operand.tmp t)∈o.op.operands):t∈o.looksAt ops:=
 List.mem_append_left _ (List.mem_filterMap.2 ⟨.tmp t,by simpa using h,rfl⟩)
theorem yXf {o:Oper} {j d:Nat} {want:Bool} (h:o.guard=some (j,want)) (hd:yQ1 ops.toList j=some d):d∈o.looksAt ops:=by
 refine List.mem_append_right _ ?_
 rw [h]
 unfold yQ1 at hd
 simp only
 have e:ops.toList[j]? =ops[j]? :=by simp
 rw [e] at hd
 split at hd
 ·rename_i o' ho'
  rw [ho']
  simpa using hd
 ·simp at hd
structure zRs (ops:Array Oper) (o:Oper) (s s':St):Prop where
 env:∀t∈o.looksAt ops,s'.env t=s.env t
theorem zRs.evs {o:Oper} {s s':St} (h:zRs ops o s s'):∀x∈o.op.operands,ev s' x=ev s x:=by
 intro x hx
 cases x with
 |tmp t=>exact h.env t (xGj hx)
 |_=>rfl
theorem zRs.wants {o:Oper} {s s':St} (h:zRs ops o s s') (hw:xHc ops s o):xHc ops s' o:=fun j want hg=>by
 obtain ⟨d,hd,he⟩:=hw j want hg
 exact ⟨d,hd,(h.env d (yXf hg hd)).trans he⟩
theorem zRs.skips {o:Oper} {s s':St} (h:zRs ops o s s') (hw:xHh ops s o):xHh ops s' o:=by
 obtain ⟨j,want,d,hg,hd,he⟩:=hw
 exact ⟨j,want,d,hg,hd,by rw [h.env d (yXf hg hd)];exact he⟩
theorem zRs.acts {o:Oper} {s s':St} {f:zF1} {s1:St} (h:zRs ops o s s') (hm:∀r∈f.reads,s'.mem r=s.mem r) (hu:∀id∈f.writes,s.used id=false→s'.used id=false) (ha:xNt tab Γ k o s f s1):
 ∃res,xNt tab Γ k o s' f (apply s' o.dst res)∧s1=apply s o.dst res∧f.writes=res.edits.map (·.1)++res.allocs:=by
 obtain ⟨res,rs,h1,h2,h3,h4,h5,rfl⟩:=ha
 refine ⟨res,⟨res,rs, ?_,h2,h3,fun id hid=>⟨hu id (by rw [h3];simp [hid]) (h4 id hid).1,(h4 id hid).2⟩,h5,rfl⟩,rfl,h3⟩
 rw [xQc h.evs]
 exact RM.ev_local h1 fun r hr=>hm r (h2 r hr)
theorem yE2 {a b:List Nat} (h:zPk a b=true):∀r∈a,r∉b:=by
 intro r hr
 have:=List.all_eq_true.1 h r hr
 simpa using this
theorem xOt {f g:zF1} (h:f.apart g=true):(∀r∈f.writes,r∉g.reads)∧(∀r∈f.writes,r∉g.writes)∧(∀r∈g.writes,r∉f.reads):=by
 simp only [zF1.apart,Bool.and_eq_true] at h
 exact ⟨yE2 h.1.1,yE2 h.1.2,yE2 h.2⟩
theorem xQv {i j:Nat} {oi oj:Oper} {s s1 s2:St} {fi fj:List zF1} (hoi:ops[i]? =some oi) (hoj:ops[j]? =some oj) (hap:oj.apart ops oi=true) (hfa:∀f∈fj,∀g∈fi,g.apart f=true)
 (hj:yE3 tab Γ k ops j s fj s1) (hi:yE3 tab Γ k ops i s1 fi s2):∃s1',yE3 tab Γ k ops i s fi s1'∧yE3 tab Γ k ops j s1' fj s2:=by
 obtain ⟨h1,h2,h3⟩:=Oper.apart_spec hap
 obtain ⟨o,ho,hj⟩:=hj
 rw [hoj] at ho;simp at ho;subst ho
 obtain ⟨o,ho,hi⟩:=hi
 rw [hoi] at ho;simp at ho;subst ho
 have hne:∀t,oj.dst=some t→oi.dst≠some t:=h2
 have env1:∀ {l:L} {s':St},s'.env=(put s oj.dst l).env→zRs ops oi s' s:=fun {l s'} he=>⟨fun t ht=>by
  rw [he];exact (yRq (fun hh=>h1 t hh ht)).symm⟩
 have env2:∀ {l:L} {s':St},s'.env=(put s oi.dst l).env→zRs ops oj s s':=fun {l s'} he=>⟨fun t ht=>by
  rw [he];exact yRq (fun hh=>h3 t hh ht)⟩
 rcases hj with ⟨hwj,fj,hfj,rfl,haj⟩|⟨hsj,rfl,rfl⟩<;>rcases hi with ⟨hwi,fi,hfi,rfl,hai⟩|⟨hsi,rfl,rfl⟩
 ·obtain ⟨hf1,hf2,hf3⟩:=xOt (hfa fj (by simp) fi (by simp))
  have haj':=haj
  obtain ⟨rj,_,_,_,hwrj,_,_,rfl⟩:=haj'
  have S1:zRs ops oi (apply s oj.dst rj) s:=env1 zEe
  have notj:∀r,r∉fj.writes→r∉rj.edits.map (·.1)∧r∉rj.allocs:=fun r hr=>by rw [hwrj] at hr;simpa using hr
  obtain ⟨ri,hai',e,hwri⟩:=S1.acts (fun r hr=>by rw [yD3,zI7 (notj r fun hh=>hf3 r hh hr).1]) (fun id hid hu=>by
   rw [yAc,yHb] at hu;simp only [Bool.or_eq_false_iff] at hu;exact hu.2) hai
  have noti:∀r,r∉fi.writes→r∉ri.edits.map (·.1)∧r∉ri.allocs:=fun r hr=>by rw [hwri] at hr;simpa using hr
  have S2:zRs ops oj s (apply s oi.dst ri):=env2 zEe
  obtain ⟨rj',haj',e',hwrj'⟩:=S2.acts (fun r hr=>by rw [yD3,zI7 (noti r fun hh=>hf1 r hh hr).1]) (fun id hid hu=>by
   rw [yAc,yHb,hu,Bool.or_false,decide_eq_false_iff_not];exact (noti id fun hh=>hf2 id hh hid).2) haj
  refine ⟨_,⟨oi,hoi, .inl ⟨S1.wants hwi,fi,hfi,rfl,hai'⟩⟩,oj,hoj, .inl ⟨S2.wants hwj,fj,hfj,rfl, ?_⟩⟩
  have:apply (apply s oi.dst ri) oj.dst rj'=s2:=by
   rw [e,e']
   have dis:∀r,r∈rj'.edits.map (·.1)→r∉ri.edits.map (·.1):=fun r hr=>(noti r fun hh=>hf2 r hh (by rw [hwrj'];simp at hr ⊢;exact .inl hr)).1
   refine xAk ?_ ?_ ?_
   ·rw [zEe,zEe]
    rw [zV9 (zEe (s:=s) (d:=oi.dst) (r:=ri)),zV9 (zEe (s:=s) (d:=oj.dst) (r:=rj')),yPf hne]
   ·simp only [yD3];exact xKd dis
   ·simp only [yAc];exact xJ8
  rw [←this]
  exact haj'
 ·have haj':=haj
  obtain ⟨rj,_,_,_,hwrj,_,_,rfl⟩:=haj'
  have S1:zRs ops oi (apply s oj.dst rj) s:=env1 zEe
  have S2:zRs ops oj s (put s oi.dst .skipped):=env2 rfl
  obtain ⟨rj',haj',e',_⟩:=S2.acts (fun r _=>by rw [yVr]) (fun id _ hu=>by rw [yO6];exact hu) haj
  refine ⟨_,⟨oi,hoi, .inr ⟨S1.skips hsi,rfl,rfl⟩⟩,oj,hoj, .inl ⟨S2.wants hwj,fj,hfj,rfl, ?_⟩⟩
  have:apply (put s oi.dst .skipped) oj.dst rj'=put (apply s oj.dst rj) oi.dst .skipped:=by
   rw [e']
   refine xAk ?_ (by simp [yD3,yVr]) (by simp [yAc,yO6])
   rw [zEe,yPf (fun t ht hh=>hne t hh ht)]
   exact (zV9 zEe).symm
  rw [←this]
  exact haj'
 ·have S1:zRs ops oi (put s oj.dst .skipped) s:=env1 rfl
  obtain ⟨ri,hai',e,hwri⟩:=S1.acts (fun r _=>by rw [yVr]) (fun id _ hu=>by rw [yO6] at hu;exact hu) hai
  have S2:zRs ops oj s (apply s oi.dst ri):=env2 zEe
  refine ⟨_,⟨oi,hoi, .inl ⟨S1.wants hwi,fi,hfi,rfl,hai'⟩⟩,oj,hoj, .inr ⟨S2.skips hsj,rfl, ?_⟩⟩
  rw [e]
  refine xAk ?_ (by simp [yD3,yVr]) (by simp [yAc,yO6])
  rw [zEe,yPf hne]
  exact zV9 zEe.symm
 ·have S1:zRs ops oi (put s oj.dst .skipped) s:=env1 rfl
  have S2:zRs ops oj s (put s oi.dst .skipped):=env2 rfl
  exact ⟨_,⟨oi,hoi, .inr ⟨S1.skips hsi,rfl,rfl⟩⟩,oj,hoj, .inr ⟨S2.skips hsj,rfl,yPf hne⟩⟩
end
end Go.GG
namespace Go.GG
open Go.RowKit
section
variable {τ:yG} {tab:Tab} {Γ:Env} {k:Nat} {ops:Array Oper}
theorem xE1 {acc:Array Nat} {j:Nat}:∀ {l:List Edge} {s:Nat},(l.foldl (fun s e=>if Region.binds .any e then s|||2^e.on|||acc.getD e.on 0 else s) s).testBit j=true→
 s.testBit j=true∨∃e∈l,Region.binds .any e=true∧(j=e.on∨(acc.getD e.on 0).testBit j=true)
 | [],s,h=> .inl h
 |e::l,s,h=>by
  simp only [List.foldl_cons] at h
  rcases xE1 h with h1|⟨e',he',h1⟩
  ·split at h1
   ·rename_i hb
    simp only [Nat.testBit_or,Nat.testBit_two_pow,Bool.or_eq_true,decide_eq_true_eq] at h1
    rcases h1 with (h1|h1)|h1
    ·exact .inl h1
    ·exact .inr ⟨e,by simp,hb, .inl h1.symm⟩
    ·exact .inr ⟨e,by simp,hb, .inr h1⟩
   ·exact .inl h1
  ·exact .inr ⟨e',by simp [he'],h1⟩
def yS0 (ops:Array Oper) (L:Nat→Prop):Prop:=∀i o e,ops[i]? =some o→L i→e∈o.after.toList→Region.binds .any e=true→L e.on
theorem xFb:∀ {l:List Oper} {acc:Array Nat},(∀j,l[j]? =ops[acc.size+j]?)→(∀i j,(acc.getD i 0).testBit j=true→∀L,yS0 ops L→L i→L j)→
 ∀i j,((l.foldl (fun acc o=>acc.push (o.after.foldl (fun s e=>if Region.binds .any e then s|||2^e.on|||acc.getD e.on 0 else s) 0)) acc).getD i 0).testBit j=true→∀L,yS0 ops L→L i→L j
 | [],acc,_,h=>h
 |o::l,acc,hl,h=>by
  simp only [List.foldl_cons]
  apply xFb
  ·intro j
   have:=hl (j+1)
   simp only [List.getElem?_cons_succ,Array.size_push] at this ⊢
   rw [this];congr 1;omega
  ·intro i j hb L hL hi
   have ho:ops[acc.size]? =some o:=by have:=hl 0;simpa using this.symm
   rw [Array.getD_eq_getD_getElem?,Array.getElem?_push] at hb
   split at hb
   ·rename_i hs
    subst hs
    rw [Option.getD_some,←Array.foldl_toList] at hb
    rcases xE1 hb with h1|⟨e,he,hbd,h1⟩
    ·simp at h1
    ·have hLe:=hL _ o e ho hi he hbd
     rcases h1 with rfl|h1
     ·exact hLe
     ·exact h e.on j h1 L hL hLe
   ·rw [←Array.getD_eq_getD_getElem?] at hb
    exact h i j hb L hL hi
theorem xGn {i j:Nat} (h:((Region.before ops).getD i 0).testBit j=true) {L:Nat→Prop} (hL:yS0 ops L) (hi:L i):L j:=by
 unfold Region.before at h
 rw [←Array.foldl_toList] at h
 exact xFb (ops:=ops) (l:=ops.toList) (acc:= #[]) (by intro j;simp) (by intro i j hh;simp at hh) i j h L hL hi
def xSu (before:Array Nat) (gs:List zF1):Prop:=gs.Pairwise fun f g=>g.apart f=true∨(before.getD g.i 0).testBit f.i=true
theorem ySz {before:Array Nat}:∀ {fs:List zF1},yOp before fs=true→xSu before fs.reverse
 | [],_=>List.Pairwise.nil
 |f::fs,h=>by
  simp only [yOp,Bool.and_eq_true,List.all_eq_true,Bool.or_eq_true] at h
  rw [List.reverse_cons]
  refine List.pairwise_append.2 ⟨ySz h.2,List.pairwise_singleton _ _,fun g hg f' hf'=> ?_⟩
  simp at hf';subst hf'
  exact h.1 g (by simpa using hg)
theorem yE3.feet {i:Nat} {s s':St} {fs:List zF1} (h:yE3 tab Γ k ops i s fs s'):∀f∈fs,f.i=i:=by
 obtain ⟨_,_,⟨_,f,hf,rfl,_⟩|⟨_,rfl,_⟩⟩:=h
 ·intro g hg;simp at hg;subst hg;exact hf
 ·simp
theorem xO9 {before:Array Nat} {i:Nat} {b:List Nat}:∀ {a:List Nat} {s sf:St} {gs:List zF1},yS1 tab Γ k ops (a++i::b) s gs sf→xSu before gs→(∀j∈a,(before.getD i 0).testBit j=false)→
 (∀j∈a,∀oj oi,ops[j]? =some oj→ops[i]? =some oi→oj.apart ops oi=true)→
 ∃fi s1 hs,yE3 tab Γ k ops i s fi s1∧yS1 tab Γ k ops (a++b) s1 hs sf∧hs.Sublist gs∧∀g∈fi,g∈gs
 | [],s,sf,_,h,_,_,_=>by
   cases h with
   |cons h1 h2=>exact ⟨_,_,_,h1,h2,List.sublist_append_right _ _,fun g hg=>by simp [hg]⟩
 |j::a,s,sf,_,h,hf,hb,ht=>by
  cases h with
  | @cons _ _ _ s1 _ fj gs' h1 h2=>
    have hf':=(List.pairwise_append.1 hf)
    obtain ⟨fi,s2,hs,h3,h4,h5,h6⟩:=xO9 h2 hf'.2.1 (fun j' hj'=>hb j' (by simp [hj'])) (fun j' hj'=>ht j' (by simp [hj']))
    have ⟨oj,hoj,_⟩:=id h1
    have ⟨oi,hoi,_⟩:=id h3
    obtain ⟨s1',h7,h8⟩:=xQv hoi hoj (ht j (by simp) oj oi hoj hoi) (fun f hff g hg=>by
     rcases hf'.2.2 f hff g (h6 g hg) with h9|h9
     ·exact h9
     ·rw [h3.feet g hg,h1.feet f hff,hb j (by simp)] at h9
      simp at h9) h1 h3
    exact ⟨fi,s1',fj++hs,h7, .cons h8 h4,List.Sublist.append (List.Sublist.refl _) h5,fun g hg=>by simp [h6 g hg]⟩
end
section
variable {τ:yG} {P:Program} {E:xI} {tab:Tab} {Γ:Env} {k:Nat} {ops:Array Oper} {Q:Exit→Act→World→Prop}
theorem xJo {j:Nat}:yQ1 ops.toList j=(ops[j]?).bind (·.dst):=by
 have e:ops.toList[j]? =ops[j]? :=by simp
 unfold yQ1
 rw [e]
 cases ops[j]? <;>rfl
theorem xMk {a:Act} {d:Nat} {v:Value} (hv:v≠undef) (h:a.tmps.getD d undef=v):a.tmps[d]? =some v:=by
 rw [Array.getD_eq_getD_getElem?] at h
 cases hx:a.tmps[d]? with
 |none=>rw [hx] at h;exact absurd h.symm hv
 |some u=>rw [hx] at h;simp at h;rw [h]
theorem xOh {m:zO} {s:St} {a:Act} {w:World} (h:Rel P E m s a w) {o:Oper} (hw:xHc ops s o):Region.wanted o (yielded ops a.tmps)=true:=by
 unfold Region.wanted
 cases hg:o.guard with
 |none=>rfl
 |some gw=>
  obtain ⟨j,want⟩:=gw
  obtain ⟨d,hd,he⟩:=hw j want hg
  have hv:=h.env d
  rw [he] at hv
  have hv:=xMk (by simp [undef]) (zW7 hv)
  rw [xJo] at hd
  simp [yielded,hd,hv]
theorem xK8 {m:zO} {s:St} {a:Act} {w:World} (h:Rel P E m s a w) {o:Oper} (hw:xHh ops s o):Region.wanted o (yielded ops a.tmps)=false:=by
 obtain ⟨j,want,d,hg,hd,he⟩:=hw
 rw [xJo] at hd
 have hv:=h.env d
 unfold Region.wanted
 rw [hg]
 simp only [yielded,hd,Option.bind_some]
 rcases he with he|he
 ·rw [he] at hv
  have hv:=xMk (by simp [undef]) (zW7 hv)
  rw [hv]
  cases want<;>simp
 ·rw [he] at hv
  simp only [zL] at hv
  rw [Array.getD_eq_getD_getElem?] at hv
  cases hx:a.tmps[d]? with
  |none=>simp
  |some u=>rw [hx] at hv;simp at hv;subst hv;simp [undef]
theorem xEy (hT:vI P tab) (hΓ:zCy P Γ) (hd:∀(i:Nat) (o:Oper),ops[i]? =some o→∀n,o.dst=some n→E.may n) {i:Nat} {s s1:St} {fs:List zF1} {a:Act} {w:World} (h:zD1 P E s a w) (hs:yE3 tab Γ k ops i s fs s1)
 {K:Act→World→Prop} (hK:∀a' w',zD1 P E s1 a' w'→K a' w'):wpOp P ops Q i K a w:=by
 obtain ⟨m,h⟩:=h
 obtain ⟨o,ho,⟨hw,f,_,_,res,rs,h1,_,_,h2,h3,rfl⟩|⟨hw,_,rfl⟩⟩:=hs
 ·unfold wpOp
  rw [ho]
  simp only [xOh h hw,if_true]
  exact .inl (xRt hT hΓ h (hd i o ho) h3 ⟨rs,h1⟩ h2 K Q hK)
 ·unfold wpOp
  rw [ho]
  simp only [xK8 h hw,Bool.false_eq_true,if_false]
  exact hK _ _ ⟨m,h.put rfl (hd i o ho)⟩
theorem xE5 (hT:vI P tab) (hΓ:zCy P Γ) (hd:∀(i:Nat) (o:Oper),ops[i]? =some o→∀n,o.dst=some n→E.may n):∀ {l:List Nat} {s sf:St} {gs:List zF1} {a:Act} {w:World},yS1 tab Γ k ops l s gs sf→zD1 P E s a w→
 (∀a' w',zD1 P E sf a' w'→Q .normal a' w')→wpOps P ops Q l a w
 | [],_,_,_,a,w,hr,h,hQ=>by cases hr;exact hQ a w h
 |i::l,_,_,_,a,w,hr,h,hQ=>by
  cases hr with
  |cons h1 h2=>
   rw [wpOps_cons]
   exact xEy hT hΓ hd h h1 fun a' w' h'=>xE5 hT hΓ hd h2 h' hQ
def left (ops:Array Oper) (listed:Array Bool):List Nat:=(List.range ops.size).filter fun i=> !listed.getD i true
theorem xR6 {listed:Array Bool} {i:Nat} {a b:List Nat} (h:left ops listed=a++i::b):left ops (listed.setIfInBounds i true)=a++b:=by
 have e:left ops (listed.setIfInBounds i true)=(left ops listed).filter fun j=>decide (j≠i):=by
  unfold left
  rw [List.filter_filter]
  apply List.filter_congr
  intro j _
  by_cases hj:j=i
  ·subst hj
   have:(listed.setIfInBounds j true).getD j true=true:=by
    rw [Array.getD_eq_getD_getElem?,Array.getElem?_setIfInBounds_self]
    split<;>rfl
   rw [this];simp
  ·rw [getD_set_ne true (Ne.symm hj)];simp [hj]
 have hn:(left ops listed).Nodup:=List.Pairwise.filter _ List.nodup_range
 rw [e,h]
 rw [h] at hn
 have h1:=List.nodup_append.1 hn
 rw [List.filter_append,List.filter_cons]
 simp only [ne_eq,not_true_eq_false,decide_false,Bool.false_eq_true,if_false]
 congr 1
 ·apply List.filter_eq_self.2
  intro j hj
  simpa using h1.2.2 j hj i (by simp)
 ·apply List.filter_eq_self.2
  intro j hj
  have:=(List.nodup_cons.1 h1.2.1).1
  simp only [decide_eq_true_eq]
  exact fun e=>this (e▸hj)
theorem yXh {listed:Array Bool}:(left ops listed).Pairwise (· < ·):=List.Pairwise.filter _ List.pairwise_lt_range
theorem xEx (hT:vI P tab) (hΓ:zCy P Γ) (hd:∀(i:Nat) (o:Oper),ops[i]? =some o→∀n,o.dst=some n→E.may n)
 (htmp:∀(j i:Nat) (oj oi:Oper),j<i→ops[j]? =some oj→ops[i]? =some oi→oj.apart ops oi=true∨((Region.before ops).getD i 0).testBit j=true)
 (hedge:∀(i:Nat) (o:Oper) (e:Edge),ops[i]? =some o→e∈o.after.toList→Region.binds .any e=true→e.on<i) {sf:St} (hQ:∀a' w',zD1 P E sf a' w'→Q .normal a' w'):
 ∀(fuel:Nat) (listed:Array Bool) (s:St) (gs:List zF1) (a:Act) (w:World),(left ops listed).length=fuel→yS1 tab Γ k ops (left ops listed) s gs sf→xSu (Region.before ops) gs→
  yS0 ops (fun i=>listed.getD i false=true)→zD1 P E s a w→wpAny P .any ops Q fuel listed a w
 |0,listed,s,gs,a,w,hl,hr,_,_,h=>by
  have hnil:left ops listed= []:=List.eq_nil_of_length_eq_zero hl
  rw [hnil] at hr
  cases hr
  refine ⟨?_,hQ a w h⟩
  cases hc:Region.ready .any ops listed with
  |nil=>rfl
  |cons i r=>
   have hi:i∈Region.ready .any ops listed:=by rw [hc];simp
   obtain ⟨h1,o,ho,_⟩:=mem_ready.1 hi
   have:i∈left ops listed:=List.mem_filter.2 ⟨List.mem_range.2 (Array.getElem?_eq_some_iff.1 ho).1,by rw [h1];rfl⟩
   rw [hnil] at this
   simp at this
 |fuel+1,listed,s,gs,a,w,hl,hr,hf,hc,h=>by
  have in_left:∀i,i∈left ops listed↔i<ops.size∧listed.getD i true=false:=fun i=>by simp [left]
  refine ⟨fun h0=> ?_,fun i hi=> ?_⟩
  ·cases hle:left ops listed with
   |nil=>rw [hle] at hl;simp at hl
   |cons i r=>
    have hi:i∈left ops listed:=by rw [hle];simp
    obtain ⟨h1,h2⟩:=(in_left i).1 hi
    have:i∈Region.ready .any ops listed:=by
     refine mem_ready.2 ⟨h2,ops[i],by simp [h1],fun e he hb=> ?_⟩
     have hlt:=hedge i ops[i] e (by simp [h1]) (by simpa using he) hb
     have hs:=yXh (ops:=ops) (listed:=listed)
     rw [hle] at hs
     have hnot:e.on∉left ops listed:=fun hh=>by
      rw [hle] at hh
      cases hh with
      |head=>omega
      |tail _ hh=>have:=(List.pairwise_cons.1 hs).1 _ hh;omega
     have h3:¬(e.on<ops.size∧listed.getD e.on true=false):=fun hh=>hnot ((in_left _).2 hh)
     have h4:listed.getD e.on true=true:=by
      cases hx:listed.getD e.on true with
      |true=>rfl
      |false=>exact absurd ⟨by omega,hx⟩ h3
     have hsz:i<listed.size:=by
      rcases Nat.lt_or_ge i listed.size with h5|h5
      ·exact h5
      ·rw [Array.getD_eq_getD_getElem?,Array.getElem?_eq_none h5] at h2;simp at h2
     have hes:e.on<listed.size:=by omega
     rw [Array.getD_eq_getD_getElem?,Array.getElem?_eq_getElem hes] at h4 ⊢
     simpa using h4
    rw [h0] at this
    simp at this
  ·obtain ⟨h1,oi,hoi,h2⟩:=mem_ready.1 hi
   have hil:i∈left ops listed:=(in_left i).2 ⟨(Array.getElem?_eq_some_iff.1 hoi).1,h1⟩
   obtain ⟨l1,l2,hle⟩:=List.append_of_mem hil
   have hs:=yXh (ops:=ops) (listed:=listed)
   rw [hle] at hs hr
   have hlt:∀j∈l1,j<i:=fun j hj=>(List.pairwise_append.1 hs).2.2 j hj i (by simp)
   have hc':yS0 ops (fun n=>(listed.setIfInBounds i true).getD n false=true):=by
    intro n o e ho hn he hb
    by_cases hni:n=i
    ·subst hni
     rw [hoi] at ho;simp at ho;subst ho
     exact getD_set_true (h2 e (by simpa using he) hb)
    ·rw [getD_set_ne false (Ne.symm hni)] at hn
     exact getD_set_true (hc n o e ho hn he hb)
   have hbit:∀j∈l1,((Region.before ops).getD i 0).testBit j=false:=by
    intro j hj
    cases hb:((Region.before ops).getD i 0).testBit j with
    |false=>rfl
    |true=>
     have hji:=hlt j hj
     have hsz:i<listed.size:=by
      rcases Nat.lt_or_ge i listed.size with h5|h5
      ·exact h5
      ·rw [Array.getD_eq_getD_getElem?,Array.getElem?_eq_none h5] at h1;simp at h1
     have:=xGn hb hc' (by simp [hsz])
     rw [getD_set_ne false (by omega)] at this
     have hjl:j∈left ops listed:=by rw [hle];simp [hj]
     have hjf:=((in_left j).1 hjl).2
     have hjs:j<listed.size:=by omega
     rw [Array.getD_eq_getD_getElem?,Array.getElem?_eq_getElem hjs] at this hjf
     simp at this hjf
     rw [this] at hjf
     simp at hjf
   obtain ⟨fi,s1,hs',h3,h4,h5,_⟩:=xO9 hr hf hbit (fun j hj oj oi' hoj hoi'=>by
    rcases htmp j i oj oi' (hlt j hj) hoj hoi' with h6|h6
    ·exact h6
    ·rw [hbit j hj] at h6;simp at h6)
   refine xEy hT hΓ hd h h3 fun a' w' h'=> ?_
   have hleft:=xR6 hle
   refine xEx hT hΓ hd htmp hedge hQ fuel _ s1 hs' a' w' ?_ (by rw [hleft];exact h4) (List.Pairwise.sublist h5 hf) hc' h'
   rw [hleft]
   rw [hle] at hl
   simp at hl ⊢
   omega
end
end Go.GG
namespace Go.GG
open Go.RowKit
section
variable {τ:yG} {P:Program} {E:xI} {m:zO} {s:St} {a:Act} {w:World}
def vH (m m':zO):Prop:=∀r i,m r=some i→m' r=some i
theorem vH.refl (m:zO):vH m m:=fun _ _ h=>h
theorem vH.trans {a b c:zO} (h:vH a b) (h':vH b c):vH a c:=fun r i hr=>h' r i (h r i hr)
theorem vH.ext {m m':zO} (h:vH m m'):Ext m m':=Ext.of h
def zCx (w:World) (ok:Nat→Prop) (m:zO):Src→zF→Prop
 | .ref d,i=>m d=some i
 | .nil,i=>i= .arr (.slice none 0 0)
 | .dnil,i=>i= .deep (.slice none 0 0) []
 | .full t xs,i=>∃v,i= .shr v∧(T.slice t).holds w ok xs [v]∧∃A,v= .slice A xs.length xs.length
def look:List (Nat×zF)→zO
 | [],_=>none
 |(r,i)::l,n=>if r=n then some i else look l n
inductive zDg (w:World) (ok:Nat→Prop) (m:zO):Sub→List (Nat×zF)→Prop
 |nil:zDg w ok m [] []
 |cons {R:Nat} {src:Src} {θ:Sub} {i:zF} {mm:List (Nat×zF)}:θ.get R=none→zCx w ok m src i→zDg w ok m θ mm→zDg w ok m ((R,src)::θ) ((R,i)::mm)
theorem zTq {R a:Nat} {src:Src} {θ:Sub}:Sub.get ((a,src)::θ) R=if a=R then some src else θ.get R:=by
 simp only [Sub.get]
 by_cases e:a=R
 ·subst e;simp
 ·have:Nat.beq a R=false:=by
   cases hb:Nat.beq a R with
   |false=>rfl
   |true=>exact absurd (Nat.eq_of_beq_eq_true hb) e
  simp [this,e]
theorem zDg.look {ok:Nat→Prop}:∀ {θ:Sub} {mm:List (Nat×zF)},zDg w ok m θ mm→∀ {R:Nat},(θ.get R=none→look mm R=none)∧∀ {src},θ.get R=some src→∃i,look mm R=some i∧zCx w ok m src i
 |_,_, .nil,R=>⟨fun _=>rfl,fun h=>by simp [Sub.get] at h⟩
 |_,_, .cons (R:=R') h1 h2 h3,R=>by
  rw [zTq]
  simp only [GG.look]
  by_cases e:R'=R
  ·subst e
   simp only [if_true]
   exact ⟨fun h=>by simp at h,fun h=>by simp at h;subst h;exact ⟨_,rfl,h2⟩⟩
  ·simp only [if_neg e]
   exact h3.look
theorem zDg.back {ok:Nat→Prop} {θ:Sub} {mm:List (Nat×zF)} (h:zDg w ok m θ mm) {R:Nat} {i:zF} (hl:GG.look mm R=some i):∃src,θ.get R=some src∧zCx w ok m src i:=by
 cases hg:θ.get R with
 |none=>rw [(h.look (R:=R)).1 hg] at hl;simp at hl
 |some src=>
  obtain ⟨j,h1,h2⟩:=(h.look (R:=R)).2 hg
  rw [hl] at h1;simp at h1;subst h1
  exact ⟨src,rfl,h2⟩
theorem zDg.ext {ok:Nat→Prop} {θ:Sub} {mm:List (Nat×zF)} (h:zDg w ok m θ mm) {R:Nat} {i:zF} (hg:θ.get R=none):vH (GG.look mm) (GG.look ((R,i)::mm)):=by
 intro r j hr
 simp only [GG.look]
 have:R≠r:=fun e=>by subst e;rw [(h.look (R:=R)).1 hg] at hr;simp at hr
 rw [if_neg this];exact hr
theorem zRc {ok:Nat→Prop} {θ θ':Sub} {mm:List (Nat×zF)} (h:zDg w ok m θ mm) {R d:Nat} {i:zF} (hi:m d=some i) (hb:zE0 θ R (.ref d)=some θ'):
 ∃mm',zDg w ok m θ' mm'∧vH (look mm) (look mm')∧look mm' R=some i:=by
 unfold zE0 at hb
 split at hb
 ·rename_i hg
  simp at hb;subst hb
  exact ⟨(R,i)::mm, .cons hg hi h,h.ext hg,by simp [look]⟩
 ·rename_i a' hg
  simp only at hb
  cases hq:Nat.beq a' d with
  |false=>rw [hq] at hb;simp at hb
  |true=>
   rw [hq] at hb
   simp at hb;subst hb
   obtain ⟨j,h1,h2⟩:=(h.look (R:=R)).2 hg
   simp only [zCx] at h2
   rw [Nat.eq_of_beq_eq_true hq,hi] at h2;simp at h2;subst h2
   exact ⟨mm,h,vH.refl _,h1⟩
 ·simp at hb
 ·simp at hb
 ·simp at hb
theorem yXb {ok:Nat→Prop}:∀ {cs cs':List (Nat×Nat)} {θ θ':Sub} {mm:List (Nat×zF)} {vs:List Value},zDg w ok m θ mm→zG2 θ cs cs'=some θ'→zMr m cs' vs→
 ∃mm',zDg w ok m θ' mm'∧vH (look mm) (look mm')∧zMr (look mm') cs vs
 | [], [],_,_,mm,vs,h,hb,hc=>by
   simp only [zG2,Option.some.injEq] at hb;subst hb
   exact ⟨mm,h,vH.refl _,hc⟩
 |(R,o)::cs,(r,o')::cs',θ,θ',mm,vs,h,hb,hc=>by
  simp only [zG2] at hb
  split at hb
  ·rename_i e
   subst e
   split at hb
   ·rename_i θ1 hb1
    obtain ⟨b,vs',h1,rfl,h2⟩:=hc
    obtain ⟨mm1,h3,h4,h5⟩:=zRc h h1 hb1
    obtain ⟨mm2,h6,h7,h8⟩:=yXb h3 hb h2
    exact ⟨mm2,h6,h4.trans h7,b,vs',h7 _ _ h5,rfl,h8⟩
   ·simp at hb
  ·simp at hb
 | [],_::_,_,_,_,_,_,hb,_=>by simp [zG2] at hb
 |_::_, [],_,_,_,_,_,hb,_=>by simp [zG2] at hb
theorem yXj {ok:Nat→Prop} {θ θ':Sub} {mm:List (Nat×zF)} {l l':L} {v:Value} (h:zDg w ok m θ mm) (hb:yB1 θ l l'=some θ') (hv:zL P w ok m l' v):
 ∃mm',zDg w ok m θ' mm'∧vH (look mm) (look mm')∧∀ok' m'',vH (look mm') m''→zL P w ok' m'' l v:=by
 unfold yB1 at hb
 split at hb
 ·
  rename_i R r
  simp only [zL] at hv
  rcases hv with hv|hv<;>(obtain ⟨mm',h1,h2,h3⟩:=zRc h hv hb;refine ⟨mm',h1,h2,fun ok' m'' he=> ?_⟩)
  ·exact .inl (he _ _ h3)
  ·exact .inr (he _ _ h3)
 ·
  rename_i R
  simp only [zL] at hv;subst hv
  unfold zE0 at hb
  split at hb
  ·rename_i hg
   simp at hb;subst hb
   exact ⟨_, .cons (i:= .arr (.slice none 0 0)) hg rfl h,h.ext hg,fun ok' m'' he=> .inl (he _ _ (by simp [look]))⟩
  ·simp at hb
  ·rename_i hg
   simp at hb;subst hb
   obtain ⟨j,h1,h2⟩:=(h.look (R:=R)).2 hg
   simp only [zCx] at h2;subst h2
   exact ⟨mm,h,vH.refl _,fun ok' m'' he=> .inl (he _ _ h1)⟩
  ·simp at hb
  ·simp at hb
 ·
  rename_i R t xs
  unfold zE0 at hb
  split at hb
  ·rename_i hg
   simp at hb;subst hb
   exact ⟨_, .cons (i:= .shr v) hg ⟨v,rfl,hv.1,hv.2⟩ h,h.ext hg,fun ok' m'' he=> .inr (he _ _ (by simp [look]))⟩
  ·simp at hb
  ·simp at hb
  ·simp at hb
  ·simp at hb
 ·
  rename_i R o r o'
  split at hb
  ·rename_i e
   subst e
   obtain ⟨b,h1,rfl⟩:=hv
   obtain ⟨mm',h2,h3,h4⟩:=zRc h h1 hb
   exact ⟨mm',h2,h3,fun ok' m'' he=>⟨b,he _ _ h4,rfl⟩⟩
  ·simp at hb
 ·
  obtain ⟨b,h1,rfl⟩:=hv
  rcases h1 with h1|⟨bs,h1⟩
  ·obtain ⟨mm',h2,h3,h4⟩:=zRc h h1 hb
   exact ⟨mm',h2,h3,fun ok' m'' he=>⟨b, .inl (he _ _ h4),rfl⟩⟩
  ·obtain ⟨mm',h2,h3,h4⟩:=zRc h h1 hb
   exact ⟨mm',h2,h3,fun ok' m'' he=>⟨b, .inr ⟨bs,he _ _ h4⟩,rfl⟩⟩
 ·
  obtain ⟨bs,h1⟩:=hv
  obtain ⟨mm',h2,h3,h4⟩:=zRc h h1 hb
  exact ⟨mm',h2,h3,fun ok' m'' he=>⟨bs,he _ _ h4⟩⟩
 ·
  rename_i R
  simp only [zL] at hv;subst hv
  unfold zE0 at hb
  split at hb
  ·rename_i hg
   simp at hb;subst hb
   exact ⟨_, .cons (i:= .deep (.slice none 0 0) []) hg rfl h,h.ext hg,fun ok' m'' he=>⟨[],he _ _ (by simp [look])⟩⟩
  ·simp at hb
  ·simp at hb
  ·rename_i hg
   simp at hb;subst hb
   obtain ⟨j,h1,h2⟩:=(h.look (R:=R)).2 hg
   simp only [zCx] at h2;subst h2
   exact ⟨mm,h,vH.refl _,fun ok' m'' he=>⟨[],he _ _ h1⟩⟩
  ·simp at hb
 ·simp at hb;subst hb;exact ⟨mm,h,vH.refl _,fun _ _ _=>hv⟩
 ·simp at hb;subst hb;exact ⟨mm,h,vH.refl _,fun _ _ _=>hv⟩
 ·simp at hb;subst hb;exact ⟨mm,h,vH.refl _,fun _ _ _=>hv⟩
 ·simp at hb;subst hb;exact ⟨mm,h,vH.refl _,fun _ _ _=>hv⟩
 ·simp at hb;subst hb;exact ⟨mm,h,vH.refl _,fun _ _ _=>hv⟩
 ·simp at hb;subst hb;exact ⟨mm,h,vH.refl _,fun _ _ _=>trivial⟩
 ·rename_i f cs f' cs'
  split at hb
  ·rename_i e
   subst e
   obtain ⟨caps,rfl,hc⟩:=hv
   obtain ⟨mm',h1,h2,h3⟩:=yXb h hb hc
   exact ⟨mm',h1,h2,fun ok' m'' he=>⟨caps,rfl,h3.mono he.ext⟩⟩
  ·simp at hb
 ·simp at hb
theorem yT0 (h:Rel P E m s a w):∀ {st:List (Nat×L)} {θ θ':Sub} {mm:List (Nat×zF)},zDg w (zK E m s.mem w) m θ mm→yEp s θ st=some θ'→
 ∃mm',zDg w (zK E m s.mem w) m θ' mm'∧vH (look mm) (look mm')∧∀ok' m'',vH (look mm') m''→∀t,zL P w ok' m'' (yCd st t) (a.tmps.getD t undef)
 | [],θ,θ',mm,hs,hb=>by
   simp only [yEp,Option.some.injEq] at hb;subst hb
   exact ⟨mm,hs,vH.refl _,fun _ _ _ _=>trivial⟩
 |(i,l)::st,θ,θ',mm,hs,hb=>by
  simp only [yEp] at hb
  split at hb
  ·simp at hb
  ·rename_i θ1 h1
   obtain ⟨mm1,h2,h3,h4⟩:=yXj hs h1 (h.env i)
   obtain ⟨mm2,h5,h6,h7⟩:=yT0 h h2 hb
   refine ⟨mm2,h5,h3.trans h6,fun ok' m'' he t=> ?_⟩
   simp only [yCd]
   cases ht:Nat.beq t i with
   |true=>
    rw [Nat.eq_of_beq_eq_true ht]
    exact h4 ok' m'' (h6.trans he)
   |false=>exact h7 ok' m'' he t
structure zSz [yG] (E:xI) (m:zO) (s:St) (w:World) (ok':Nat→Prop) (G:List Nat):Prop where
 old:∀b,zK E m s.mem w b→ok' b
 row:∀r∈G,∀i b,m r=some i→b∈i.blocks→ok' b
theorem zSz.left {ok':Nat→Prop} {g g':List Nat} (h:zSz E m s w ok' (g++g')):zSz E m s w ok' g:=⟨h.old,fun r hr=>h.row r (by simp [hr])⟩
theorem zSz.right {ok':Nat→Prop} {g g':List Nat} (h:zSz E m s w ok' (g++g')):zSz E m s w ok' g':=⟨h.old,fun r hr=>h.row r (by simp [hr])⟩
theorem xMo (h:Rel P E m s a w) {ok':Nat→Prop} {G:List Nat} (hk:zSz E m s w ok' G) {r:Nat} (hr:r∈G) {t:T} {xs:List t.den} (hx:zGm (s.mem r)=some ⟨t,xs⟩) {v:Value}
 (hv:zL P w (zK E m s.mem w) m (.sref r) v):(T.slice t).holds w ok' xs [v]:=by
 have kp:zS w w (zK E m s.mem w) ok':=zS.weaken hk.old
 have own:m r=some (.arr v)→yN w (zK E m s.mem w) t xs v→(T.slice t).holds w ok' xs [v]:=by
  intro hm ho
  rcases ho with ⟨rfl,rfl⟩|⟨b,C,e,fr,cap,rfl,h1,h2,h3,h4,h5⟩
  ·exact ⟨none,0,rfl,Nat.le_refl _, .inl ⟨rfl,fun _=>rfl⟩⟩
  ·refine ⟨_,cap,rfl,h1, .inr ⟨b,0,C,e,fr,rfl,hk.row r hr _ b hm (by simp [zF.blocks]),h3,fun i x hi=> ?_⟩⟩
   obtain ⟨ds,hd,hj⟩:=h5 i x hi
   exact ⟨ds,T.holds_mono kp hd,fun j u hu=>by rw [Nat.zero_add];exact hj j u hu⟩
 simp only [zL] at hv
 rcases zFk hx with hc|hc<;>(obtain ⟨im,h1,h2,h3⟩:=h.mem _ _ hc;have hm:=h1;rw [h1] at hv;rcases hv with hv|hv<;>(simp at hv;subst hv;simp only [yM] at h2))
 ·exact own hm h2
 ·exact own hm h2
 ·exact T.holds_mono (t:= .slice t) kp h2.1
theorem yW0 {μ:Nat→Option C} {r:Nat} {x:(t:T)×List t.den} (h:zGm (μ r)=some x):(μ r).isSome:=by
 cases hc:μ r with
 |none=>rw [hc] at h;simp [zGm] at h
 |some c=>rfl
theorem yHi (h:Rel P E m s a w) {t:T} {l:L} {x:t.den} {g:List Nat} {v:Value} (hp:yH1 s t l=some (x,g)) (hv:zL P w (zK E m s.mem w) m l v):
 (∀r∈g,(s.mem r).isSome)∧∀ok',zSz E m s w ok' g→t.holds w ok' x [v]:=by
 unfold yH1 at hp
 split at hp
 ·rename_i r
  split at hp
  ·rename_i t' xs hx
   split at hp
   ·rename_i y hy
    simp only [Option.some.injEq,Prod.mk.injEq] at hp
    obtain ⟨rfl,rfl⟩:=hp
    obtain ⟨rfl,rfl⟩:=yU hy
    exact ⟨fun r' hr'=>by simp at hr';subst hr';exact yW0 hx,fun ok' hk=>xMo h hk (by simp) hx hv⟩
   ·simp at hp
  ·simp at hp
 ·split at hp
  ·rename_i y hy
   simp only [Option.some.injEq,Prod.mk.injEq] at hp
   obtain ⟨rfl,rfl⟩:=hp
   exact ⟨by simp,fun ok' hk=>T.holds_mono (zS.weaken hk.old) (wM hy hv)⟩
  ·simp at hp
theorem zQt (h:Rel P E m s a w):∀ {ls ls':List L} {g:List Nat} {vs:List Value},zAw s ls=some (ls',g)→zR P w (zK E m s.mem w) m ls vs→
 (∀r∈g,(s.mem r).isSome)∧∀ok',zSz E m s w ok' g→zR P w ok' m ls' vs
 | [],ls',g,vs,hp,hl=>by
   simp only [zAw,Option.some.injEq,Prod.mk.injEq] at hp
   obtain ⟨rfl,rfl⟩:=hp
   exact ⟨by simp,fun _ _=>hl⟩
 |l::ls,ls',g,_,hp,hl=>by
  obtain ⟨v,vs,rfl,h1,h2⟩:=hl
  cases l
  case sref r=>
   simp only [zAw] at hp
   split at hp
   ·rename_i t xs hx
    split at hp
    ·rename_i a' b' hq
     simp only [Option.some.injEq,Prod.mk.injEq] at hp
     obtain ⟨rfl,rfl⟩:=hp
     obtain ⟨h3,h4⟩:=zQt h hq h2
     refine ⟨fun r' hr'=> ?_,fun ok' hk=>⟨v,vs,rfl,xMo h hk (by simp) hx h1,h4 ok' ⟨hk.old,fun r' hr'=>hk.row r' (by simp [hr'])⟩⟩⟩
     cases hr' with
     |head=>exact yW0 hx
     |tail _ hr'=>exact h3 r' hr'
    ·simp at hp
   ·simp at hp
  all_goals
   simp only [zAw] at hp
   split at hp
   ·rename_i a' b' hq
    simp only [Option.some.injEq,Prod.mk.injEq] at hp
    obtain ⟨rfl,rfl⟩:=hp
    obtain ⟨h3,h4⟩:=zQt h hq h2
    exact ⟨h3,fun ok' hk=>⟨v,vs,rfl,h1.mono (zS.weaken hk.old) (Ext.refl m),h4 ok' hk⟩⟩
   ·simp at hp
theorem yIf (h:Rel P E m s a w):∀ {ps:List yV1} {ls:List L} {x:RD T.den (yQ7 ps)} {θ θ':Sub} {g:List Nat} {vs:List Value} {mm:List (Nat×zF)},zDg w (zK E m s.mem w) m θ mm→jX s θ ps ls=some (x,θ',g)→
 zR P w (zK E m s.mem w) m ls vs→∃mm',zDg w (zK E m s.mem w) m θ' mm'∧vH (look mm) (look mm')∧(∀r∈g,(s.mem r).isSome)∧
  ∀ok' m'',zSz E m s w ok' g→vH (look mm') m''→zR P w ok' m'' (cellsOf ps x) vs
 | [], [],x,θ,θ',g,vs,mm,hs,hp,hl=>by
   simp only [jX,Option.some.injEq,Prod.mk.injEq] at hp
   obtain ⟨rfl,rfl,rfl⟩:=hp
   exact ⟨mm,hs,vH.refl _,by simp,fun _ _ _ _=>hl⟩
 | .dyn t::ps,l::ls,x,θ,θ',g,_,mm,hs,hp,hl=>by
   simp only [jX] at hp
   split at hp
   ·simp at hp
   ·rename_i y g1 hy
    split at hp
    ·simp at hp
    ·rename_i z θ1 g2 hz
     simp only [Option.some.injEq,Prod.mk.injEq] at hp
     obtain ⟨rfl,rfl,rfl⟩:=hp
     obtain ⟨v,vs,rfl,h1,h2⟩:=hl
     obtain ⟨h3,h4⟩:=yHi h hy h1
     obtain ⟨mm',h5,h6,h7,h8⟩:=yIf h hs hz h2
     refine ⟨mm',h5,h6,fun r hr=> ?_,fun ok' m'' hk he=>⟨v,vs,rfl, ?_, ?_⟩⟩
     ·rcases List.mem_append.1 hr with hr|hr
      ·exact h3 r hr
      ·exact h7 r hr
     ·simp only [zL];rw [vQ];exact h4 ok' hk.left
     ·rw [xQ];exact h8 ok' m'' hk.right he
 | .stat e::ps,l::ls,x,θ,θ',g,_,mm,hs,hp,hl=>by
   simp only [jX] at hp
   split at hp
   ·simp at hp
   ·rename_i θ1 hb
    obtain ⟨v,vs,rfl,h1,h2⟩:=hl
    obtain ⟨mm1,h3,h4,h5⟩:=yXj hs hb h1
    obtain ⟨mm',h6,h7,h8,h9⟩:=yIf h h3 hp h2
    exact ⟨mm',h6,h4.trans h7,h8,fun ok' m'' hk he=>⟨v,vs,rfl,h5 ok' m'' (h7.trans he),h9 ok' m'' hk he⟩⟩
 | [],_::_,_,_,_,_,_,_,_,hp,_=>by simp [jX] at hp
 | .dyn _::_, [],_,_,_,_,_,_,_,hp,_=>by simp [jX] at hp
 | .stat _::_, [],_,_,_,_,_,_,_,hp,_=>by simp [jX] at hp
end
end Go.GG
namespace Go.GG
open Go.RowKit
section
variable {τ:yG} {P:Program} {E:xI} {m:zO} {s:St} {a:Act} {w:World}
structure xUu (P:Program) (w:World) (m:zO) (s:St) (a:Act) (ok':Nat→Prop) (m'':zO) (θ:Sub) (ps:List PE) (x:RD PE.den ps):Prop where
 env:∀e0:Nat→L,(∀t,zL P w ok' m'' (e0 t) (a.tmps.getD t undef))→∀t,zL P w ok' m'' (wQ ps x e0 t) (a.tmps.getD t undef)
 mem:∀R c,wI ps x R=some c→∃i,m'' R=some i∧yM P w ok' m'' c i∧∀b,b∈i.blocks→∃d,θ.get R=some (.ref d)∧m d=some i∧(s.mem d).isSome
 src:∀R,(wI ps x R).isSome→∃src,θ.get R=some src∧∀d,src= .ref d→(s.mem d).isSome
theorem xU9 {ok':Nat→Prop} {m'':zO} {l:L} {i:Nat} (h:zL P w ok' m'' l (a.tmps.getD i undef)) {e0:Nat→L} (h0:∀t,zL P w ok' m'' (e0 t) (a.tmps.getD t undef)):
 ∀t,zL P w ok' m'' (cond (Nat.beq t i) l (e0 t)) (a.tmps.getD t undef):=by
 intro t
 cases ht:Nat.beq t i with
 |true=>rw [Nat.eq_of_beq_eq_true ht];exact h
 |false=>exact h0 t
def yG3 (θ θ':Sub):Prop:=∀R src,θ.get R=some src→θ'.get R=some src
theorem zEb {θ θ':Sub} {R:Nat} {d:Src} (h:zE0 θ R d=some θ'):yG3 θ θ':=by
 unfold zE0 at h
 split at h
 ·rename_i hg
  simp at h;subst h
  intro R' src hR
  rw [zTq]
  by_cases e:R=R'
  ·subst e;rw [hg] at hR;simp at hR
  ·rw [if_neg e];exact hR
 ·rename_i a' hg
  split at h
  ·rename_i b
   cases hq:Nat.beq a' b with
   |false=>rw [hq] at h;simp at h
   |true=>rw [hq] at h;simp at h;subst h;exact fun _ _ h=>h
  ·simp at h
 ·split at h
  ·simp at h;subst h;exact fun _ _ h=>h
  ·simp at h
 ·split at h
  ·simp at h;subst h;exact fun _ _ h=>h
  ·simp at h
 ·simp at h
theorem yN1:∀ {cs cs':List (Nat×Nat)} {θ θ':Sub},zG2 θ cs cs'=some θ'→yG3 θ θ'
 | [], [],θ,θ',h=>by simp only [zG2,Option.some.injEq] at h;subst h;exact fun _ _ h=>h
 |(R,o)::cs,(r,o')::cs',θ,θ',h=>by
  simp only [zG2] at h
  split at h
  ·split at h
   ·rename_i θ1 h1
    exact fun R src hR=>yN1 h R src (zEb h1 R src hR)
   ·simp at h
  ·simp at h
 | [],_::_,_,_,h=>by simp [zG2] at h
 |_::_, [],_,_,h=>by simp [zG2] at h
theorem xEh {θ θ':Sub} {l l':L} (h:yB1 θ l l'=some θ'):yG3 θ θ':=by
 unfold yB1 at h
 split at h
 ·exact zEb h
 ·exact zEb h
 ·exact zEb h
 ·split at h
  ·exact zEb h
  ·simp at h
 ·exact zEb h
 ·exact zEb h
 ·exact zEb h
 ·simp at h;subst h;exact fun _ _ h=>h
 ·simp at h;subst h;exact fun _ _ h=>h
 ·simp at h;subst h;exact fun _ _ h=>h
 ·simp at h;subst h;exact fun _ _ h=>h
 ·simp at h;subst h;exact fun _ _ h=>h
 ·simp at h;subst h;exact fun _ _ h=>h
 ·split at h
  ·exact yN1 h
  ·simp at h
 ·simp at h
theorem yAv:∀ {ps:List yV1} {ls:List L} {x:RD T.den (yQ7 ps)} {θ θ':Sub} {g:List Nat},jX s θ ps ls=some (x,θ',g)→yG3 θ θ'
 | [], [],x,θ,θ',g,h=>by
   simp only [jX,Option.some.injEq,Prod.mk.injEq] at h
   obtain ⟨_,rfl,_⟩:=h
   exact fun _ _ h=>h
 | .dyn t::ps,l::ls,x,θ,θ',g,h=>by
   simp only [jX] at h
   split at h
   ·simp at h
   ·split at h
    ·simp at h
    ·rename_i z θ1 g2 hz
     simp only [Option.some.injEq,Prod.mk.injEq] at h
     obtain ⟨_,rfl,_⟩:=h
     exact yAv hz
 | .stat e::ps,l::ls,x,θ,θ',g,h=>by
   simp only [jX] at h
   split at h
   ·simp at h
   ·rename_i θ1 hb
    exact fun R src hR=>yAv h R src (xEh hb R src hR)
 | [],_::_,_,_,_,_,h=>by simp [jX] at h
 | .dyn _::_, [],_,_,_,_,h=>by simp [jX] at h
 | .stat _::_, [],_,_,_,_,h=>by simp [jX] at h
structure xVm (P:Program) (w:World) (m:zO) (s:St) (a:Act) (ok':Nat→Prop) (m'':zO) (θ:Sub) (p:PE) (x:p.den):Prop where
 one:(∃i l,(∀(ps:List PE) (y:RD PE.den ps) (e:Nat→L),wQ (p::ps) (RD.mk (k:=p) x y) e=wQ ps y fun n=>cond (Nat.beq n i) l (e n))∧
    (∀(ps:List PE) (y:RD PE.den ps),wI (p::ps) (RD.mk (k:=p) x y)=wI ps y)∧zL P w ok' m'' l (a.tmps.getD i undef))∨
  (∃R c,(∀(ps:List PE) (y:RD PE.den ps) (e:Nat→L),wQ (p::ps) (RD.mk (k:=p) x y) e=wQ ps y e)∧
   (∀(ps:List PE) (y:RD PE.den ps),wI (p::ps) (RD.mk (k:=p) x y)=fun n=>cond (Nat.beq n R) (some c) (wI ps y n))∧
   (∃i,m'' R=some i∧yM P w ok' m'' c i∧∀b,b∈i.blocks→∃d,θ.get R=some (.ref d)∧m d=some i∧(s.mem d).isSome)∧
   ∃src,θ.get R=some src∧∀d,src= .ref d→(s.mem d).isSome)
theorem xOc (h:Rel P E m s a w) {p:PE} {x:p.den} {θ θ':Sub} {g:List Nat} {mm:List (Nat×zF)} (hs:zDg w (zK E m s.mem w) m θ mm) (hp:xDo s θ p=some (x,θ',g)):
 yG3 θ θ'∧∃mm',zDg w (zK E m s.mem w) m θ' mm'∧vH (look mm) (look mm')∧(∀r∈g,(s.mem r).isSome)∧
  ∀ok' m'' θ'',zSz E m s w ok' g→vH (look mm') m''→yG3 θ' θ''→xVm P w m s a ok' m'' θ'' p x:=by
 have hv:=fun i=>h.env i
 have idG:yG3 θ θ:=fun _ _ h=>h
 unfold xDo at hp
 split at hp
 ·
  rename_i i t
  split at hp
  ·rename_i y g1 hy
   simp only [Option.some.injEq,Prod.mk.injEq] at hp
   obtain ⟨rfl,rfl,rfl⟩:=hp
   obtain ⟨h1,h2⟩:=yHi h hy (hv i)
   exact ⟨idG,mm,hs,vH.refl _,h1,fun ok' m'' θ'' hk _ _=>⟨.inl ⟨i, .val t y,fun ps z e=>by simp only [wQ,vQ,xQ],fun ps z=>by simp only [wI,xQ],h2 ok' hk⟩⟩⟩
  ·simp at hp
 ·
  rename_i i t
  split at hp
  ·rename_i ls hl
   split at hp
   ·rename_i ls' g1 hq
    split at hp
    ·rename_i y hy
     simp only [Option.some.injEq,Prod.mk.injEq] at hp
     obtain ⟨rfl,rfl,rfl⟩:=hp
     have hv:=hv i
     rw [hl] at hv
     obtain ⟨vs,hvs,hls⟩:=hv
     obtain ⟨h1,h2⟩:=zQt h hq hls
     exact ⟨idG,mm,hs,vH.refl _,h1,fun ok' m'' θ'' hk _ _=>⟨.inl ⟨i, .agg (t.explode y),fun ps z e=>by simp only [wQ,vQ,xQ],fun ps z=>by simp only [wI,xQ],
      ⟨vs,hvs,jK (wO hy (h2 ok' hk))⟩⟩⟩⟩
    ·simp at hp
   ·simp at hp
  ·simp at hp
 ·
  rename_i i t
  split at hp
  ·rename_i t' xs hl
   split at hp
   ·rename_i y hy
    simp only [Option.some.injEq,Prod.mk.injEq] at hp
    obtain ⟨rfl,rfl,rfl⟩:=hp
    obtain ⟨e,he⟩:=yU hy
    cases e;subst he
    have hv:=hv i
    rw [hl] at hv
    exact ⟨idG,mm,hs,vH.refl _,by simp,fun ok' m'' θ'' hk _ _=>⟨.inl ⟨i, .full _ _,fun ps z e=>by simp only [wQ,vQ,xQ],fun ps z=>by simp only [wI,xQ],
     ⟨T.holds_mono (t:= .slice _) (zS.weaken hk.old) hv.1,hv.2⟩⟩⟩⟩
   ·simp at hp
  ·simp at hp
 ·
  rename_i i t
  split at hp
  ·rename_i t' xs hl
   split at hp
   ·rename_i y hy
    simp only [Option.some.injEq,Prod.mk.injEq] at hp
    obtain ⟨rfl,rfl,rfl⟩:=hp
    obtain ⟨e,he⟩:=yU hy
    cases e;subst he
    have hv:=hv i
    rw [hl] at hv
    exact ⟨idG,mm,hs,vH.refl _,by simp,fun ok' m'' θ'' hk _ _=>⟨.inl ⟨i, .nnil _ _,fun ps z e=>by simp only [wQ,vQ,xQ],fun ps z=>by simp only [wI,xQ],
     ⟨T.holds_mono (t:= .slice _) (zS.weaken hk.old) hv.1,hv.2⟩⟩⟩⟩
   ·simp at hp
  ·simp at hp
 ·
  rename_i i t off
  split at hp
  ·rename_i t' y off' hl
   split at hp
   ·rename_i e0
    subst e0
    split at hp
    ·rename_i z hz
     simp only [Option.some.injEq,Prod.mk.injEq] at hp
     obtain ⟨rfl,rfl,rfl⟩:=hp
     obtain ⟨rfl,rfl⟩:=yU hz
     have hv:=hv i
     rw [hl] at hv
     exact ⟨idG,mm,hs,vH.refl _,by simp,fun ok' m'' θ'' hk _ _=>⟨.inl ⟨i, .eptr _ _ off,fun ps z e=>by simp only [wQ,vQ,xQ],fun ps z=>by simp only [wI,xQ],
      (zL.mono (m:=m) (m':=m) (l:= .eptr _ _ off) (zS.weaken hk.old) (Ext.refl m) hv)⟩⟩⟩
    ·simp at hp
   ·simp at hp
  ·simp at hp
 ·
  rename_i i qs b
  split at hp
  ·rename_i ps' b' q hl
   split at hp
   ·rename_i hh
    obtain ⟨rfl,rfl⟩:=hh
    simp only [Option.some.injEq,Prod.mk.injEq] at hp
    obtain ⟨rfl,rfl,rfl⟩:=hp
    have hv:=hv i
    rw [hl] at hv
    exact ⟨idG,mm,hs,vH.refl _,by simp,fun ok' m'' θ'' hk _ _=>⟨.inl ⟨i, .fn ps' b' q,fun ps z e=>by simp only [wQ,vQ,xQ],fun ps z=>by simp only [wI,xQ],
     zD3.mono (zS.weaken hk.old) hv⟩⟩⟩
   ·simp at hp
  ·simp at hp
 ·
  rename_i R ls
  split at hp
  ·rename_i r hR
   split at hp
   ·rename_i ms hr
    obtain ⟨i,h1,h2,h3⟩:=h.mem r _ hr
    cases i with
    |var b=>
     obtain ⟨vs,e,h4,h5⟩:=h2
     obtain ⟨mm',h6,h7,h8,h9⟩:=yIf h hs hp h5
     obtain ⟨j,h10,h11⟩:=(hs.look (R:=R)).2 hR
     simp only [zCx] at h11
     rw [h1] at h11;simp at h11;subst h11
     have hgr:=yAv hp
     refine ⟨hgr,mm',h6,h7,h8,fun ok' m'' θ'' hk he hθ=>⟨.inr ⟨R, .cells (cellsOf ls x),fun ps z e=>by simp only [wQ,xQ],fun ps z=>by funext n;simp only [wI,vQ,xQ],
      ⟨.var b,he _ _ (h7 _ _ h10),⟨vs,e,h4,h9 ok' m'' hk he⟩,fun b' hb'=>⟨r,hθ _ _ (hgr _ _ hR),h1,by simp [hr]⟩⟩, .ref r,hθ _ _ (hgr _ _ hR),fun d hd=>by cases hd;simp [hr]⟩⟩⟩
    |arr v=>exact h2.elim
    |shr v=>exact h2.elim
    |blk A c=>exact h2.elim
    |obj b bs=>exact h2.elim
    |deep v bs=>exact h2.elim
   ·simp at hp
  ·simp at hp
 ·
  rename_i R t
  split at hp
  ·rename_i r hR
   split at hp
   ·rename_i t' xs hr
    split at hp
    ·rename_i y hy
     simp only [Option.some.injEq,Prod.mk.injEq] at hp
     obtain ⟨rfl,rfl,rfl⟩:=hp
     obtain ⟨e,he⟩:=yU hy
     cases e;subst he
     obtain ⟨i,h1,h2,h3⟩:=h.mem r _ hr
     obtain ⟨j,h10,h11⟩:=(hs.look (R:=R)).2 hR
     simp only [zCx] at h11
     rw [h1] at h11;simp at h11;subst h11
     refine ⟨idG,mm,hs,vH.refl _,by simp,fun ok' m'' θ'' hk he hθ=>⟨.inr ⟨R, .arr _ xs,fun ps z e=>by simp only [wQ,xQ],fun ps z=>by funext n;simp only [wI,vQ,xQ],
      ⟨i,he _ _ h10, ?_,fun b' hb'=>⟨r,hθ _ _ hR,h1,by simp [hr]⟩⟩, .ref r,hθ _ _ hR,fun d hd=>by cases hd;simp [hr]⟩⟩⟩
     cases i with
     |var b=>exact h2.elim
     |shr v=>exact h2.elim
     |blk A c=>exact h2.elim
     |obj b bs=>exact h2.elim
     |deep v bs=>exact h2.elim
     |arr v=>exact yN.mono (zS.weaken hk.old) (fun _ _=>rfl) h2
    ·simp at hp
   ·simp at hp
  ·rename_i hR
   simp only [Option.some.injEq,Prod.mk.injEq] at hp
   obtain ⟨rfl,rfl,rfl⟩:=hp
   obtain ⟨j,h10,h11⟩:=(hs.look (R:=R)).2 hR
   simp only [zCx] at h11;subst h11
   exact ⟨idG,mm,hs,vH.refl _,by simp,fun ok' m'' θ'' hk he hθ=>⟨.inr ⟨R, .arr t [],fun ps z e=>by simp only [wQ,xQ],fun ps z=>by funext n;simp only [wI,vQ,xQ],
    ⟨_,he _ _ h10, .inl ⟨rfl,rfl⟩,fun b' hb'=>by simp [zF.blocks] at hb'⟩, .nil,hθ _ _ hR,fun d hd=>by cases hd⟩⟩⟩
  ·simp at hp
 ·
  rename_i R t
  split at hp
  ·rename_i r hR
   split at hp
   ·rename_i t' xs hx
    split at hp
    ·rename_i y hy
     simp only [Option.some.injEq,Prod.mk.injEq] at hp
     obtain ⟨rfl,rfl,rfl⟩:=hp
     obtain ⟨e,he⟩:=yU hy
     cases e;subst he
     obtain ⟨j,h10,h11⟩:=(hs.look (R:=R)).2 hR
     simp only [zCx] at h11
     have key:∃c,s.mem r=some c∧∃i,m r=some i∧∀ok',(∀b,zK E m s.mem w b→ok' b)→∀m'',yM P w ok' m'' (.app _ xs) i:=by
      rcases zFk hx with hc|hc<;>(obtain ⟨i,h1,h2,h3⟩:=h.mem r _ hc;refine ⟨_,hc,i,h1,fun ok' hk m''=> ?_⟩;cases i<;>simp only [yM] at h2 ⊢)
      ·exact yN.mono (zS.weaken hk) (fun _ _=>rfl) h2
      ·exact yN.mono (zS.weaken hk) (fun _ _=>rfl) h2
      ·exact ⟨T.holds_mono (t:= .slice _) (zS.weaken hk) h2.1,h2.2⟩
     obtain ⟨c,hc,i,h1,h2⟩:=key
     rw [h1] at h11;simp at h11;subst h11
     exact ⟨idG,mm,hs,vH.refl _,by simp,fun ok' m'' θ'' hk he hθ=>⟨.inr ⟨R, .app _ xs,fun ps z e=>by simp only [wQ,xQ],fun ps z=>by funext n;simp only [wI,vQ,xQ],
      ⟨i,he _ _ h10,h2 ok' hk.old m'',fun b' hb'=>⟨r,hθ _ _ hR,h1,by simp [hc]⟩⟩, .ref r,hθ _ _ hR,fun d hd=>by cases hd;simp [hc]⟩⟩⟩
    ·simp at hp
   ·simp at hp
  ·rename_i hR
   simp only [Option.some.injEq,Prod.mk.injEq] at hp
   obtain ⟨rfl,rfl,rfl⟩:=hp
   obtain ⟨j,h10,h11⟩:=(hs.look (R:=R)).2 hR
   simp only [zCx] at h11;subst h11
   exact ⟨idG,mm,hs,vH.refl _,by simp,fun ok' m'' θ'' hk he hθ=>⟨.inr ⟨R, .app t [],fun ps z e=>by simp only [wQ,xQ],fun ps z=>by funext n;simp only [wI,vQ,xQ],
    ⟨_,he _ _ h10, .inl ⟨rfl,rfl⟩,fun b' hb'=>by simp [zF.blocks] at hb'⟩, .nil,hθ _ _ hR,fun d hd=>by cases hd⟩⟩⟩
  ·rename_i t' xs hR
   split at hp
   ·rename_i y hy
    simp only [Option.some.injEq,Prod.mk.injEq] at hp
    obtain ⟨rfl,rfl,rfl⟩:=hp
    obtain ⟨e,he⟩:=yU hy
    cases e;subst he
    obtain ⟨j,h10,h11⟩:=(hs.look (R:=R)).2 hR
    simp only [zCx] at h11
    obtain ⟨v,rfl,h12,h13⟩:=h11
    exact ⟨idG,mm,hs,vH.refl _,by simp,fun ok' m'' θ'' hk he hθ=>⟨.inr ⟨R, .app _ xs,fun ps z e=>by simp only [wQ,xQ],fun ps z=>by funext n;simp only [wI,vQ,xQ],
     ⟨_,he _ _ h10,⟨T.holds_mono (t:= .slice _) (zS.weaken hk.old) h12,h13⟩,fun b' hb'=>by simp [zF.blocks] at hb'⟩, .full _ _,hθ _ _ hR,fun d hd=>by cases hd⟩⟩⟩
   ·simp at hp
  ·simp at hp
 ·
  rename_i R kt vt
  split at hp
  ·rename_i r hR
   split at hp
   ·rename_i kt' vt' l hr
    split at hp
    ·rename_i y hy
     simp only [Option.some.injEq,Prod.mk.injEq] at hp
     obtain ⟨rfl,rfl,rfl⟩:=hp
     obtain ⟨e,he⟩:=yU hy
     cases e;subst he
     obtain ⟨i,h1,h2,h3⟩:=h.mem r _ hr
     obtain ⟨j,h10,h11⟩:=(hs.look (R:=R)).2 hR
     simp only [zCx] at h11
     rw [h1] at h11;simp at h11;subst h11
     refine ⟨idG,mm,hs,vH.refl _,by simp,fun ok' m'' θ'' hk he hθ=>⟨.inr ⟨R, .map _ _ l,fun ps z e=>by simp only [wQ,xQ],fun ps z=>by funext n;simp only [wI,vQ,xQ],
      ⟨i,he _ _ h10, ?_,fun b' hb'=>⟨r,hθ _ _ hR,h1,by simp [hr]⟩⟩, .ref r,hθ _ _ hR,fun d hd=>by cases hd;simp [hr]⟩⟩⟩
     cases i with
     |arr v=>exact h2.elim
     |shr v=>exact h2.elim
     |blk A c=>exact h2.elim
     |var b=>
      obtain ⟨g0,es,clock,g1,g2⟩:=h2
      exact ⟨g0,es,clock,g1,g2.mono (zS.weaken hk.old)⟩
     |obj b bs=>exact h2.elim
     |deep v bs=>exact h2.elim
    ·simp at hp
   ·simp at hp
  ·simp at hp
 ·
  rename_i R
  split at hp
  ·rename_i r hR
   split at hp
   ·rename_i l hr
    simp only [Option.some.injEq,Prod.mk.injEq] at hp
    obtain ⟨rfl,rfl,rfl⟩:=hp
    obtain ⟨i,h1,h2,h3⟩:=h.mem r _ hr
    obtain ⟨j,h10,h11⟩:=(hs.look (R:=R)).2 hR
    simp only [zCx] at h11
    rw [h1] at h11;simp at h11;subst h11
    refine ⟨idG,mm,hs,vH.refl _,by simp,fun ok' m'' θ'' hk he hθ=>⟨.inr ⟨R, .pm l none,fun ps z e=>by simp only [wQ,xQ],fun ps z=>by funext n;simp only [wI,vQ,xQ],
     ⟨i,he _ _ h10, ?_,fun b' hb'=>⟨r,hθ _ _ hR,h1,by simp [hr]⟩⟩, .ref r,hθ _ _ hR,fun d hd=>by cases hd;simp [hr]⟩⟩⟩
    cases i with
    |arr v=>exact h2.elim
    |shr v=>exact h2.elim
    |blk A c=>exact h2.elim
    |var b=>exact h2.elim
    |obj b bs=>
     obtain ⟨g0,es,clock,g1,g2⟩:=h2
     exact ⟨g0,es,clock,g1,g2.free⟩
    |deep v bs=>exact h2.elim
   ·simp at hp
  ·simp at hp
 ·
  rename_i R
  split at hp
  ·rename_i r hR
   split at hp
   ·rename_i l hr
    simp only [Option.some.injEq,Prod.mk.injEq] at hp
    obtain ⟨rfl,rfl,rfl⟩:=hp
    obtain ⟨i,h1,h2,h3⟩:=h.mem r _ hr
    obtain ⟨j,h10,h11⟩:=(hs.look (R:=R)).2 hR
    simp only [zCx] at h11
    rw [h1] at h11;simp at h11;subst h11
    refine ⟨idG,mm,hs,vH.refl _,by simp,fun ok' m'' θ'' hk he hθ=>⟨.inr ⟨R, .segs l none,fun ps z e=>by simp only [wQ,xQ],fun ps z=>by funext n;simp only [wI,vQ,xQ],
     ⟨i,he _ _ h10, ?_,fun b' hb'=>⟨r,hθ _ _ hR,h1,by simp [hr]⟩⟩, .ref r,hθ _ _ hR,fun d hd=>by cases hd;simp [hr]⟩⟩⟩
    cases i with
    |arr v=>exact h2.elim
    |shr v=>exact h2.elim
    |blk A c=>exact h2.elim
    |var b=>exact h2.elim
    |obj b bs=>exact h2.elim
    |deep v bs=>exact ⟨h2.1,(jH.free h2.2 (m':=m'')).mono (zS.weaken hk.old) (Ext.refl _) (fun _ _=>rfl)⟩
   ·simp at hp
  ·rename_i hR
   simp only [Option.some.injEq,Prod.mk.injEq] at hp
   obtain ⟨rfl,rfl,rfl⟩:=hp
   obtain ⟨j,h10,h11⟩:=(hs.look (R:=R)).2 hR
   simp only [zCx] at h11;subst h11
   exact ⟨idG,mm,hs,vH.refl _,by simp,fun ok' m'' θ'' hk he hθ=>⟨.inr ⟨R, .segs [] none,fun ps z e=>by simp only [wQ,xQ],fun ps z=>by funext n;simp only [wI,vQ,xQ],
    ⟨_,he _ _ h10,⟨List.nodup_nil, .inl ⟨rfl,rfl,rfl,rfl⟩⟩,fun b' hb'=>by simp [zF.blocks] at hb'⟩, .dnil,hθ _ _ hR,fun d hd=>by cases hd⟩⟩⟩
  ·simp at hp
theorem xBb (h:Rel P E m s a w):∀ {ps:List PE} {x:RD PE.den ps} {θ θ':Sub} {g:List Nat} {mm:List (Nat×zF)},zDg w (zK E m s.mem w) m θ mm→yNj s θ ps=some (x,θ',g)→
 yG3 θ θ'∧∃mm',zDg w (zK E m s.mem w) m θ' mm'∧vH (look mm) (look mm')∧(∀r∈g,(s.mem r).isSome)∧
  ∀ok' m'' θ'',zSz E m s w ok' g→vH (look mm') m''→yG3 θ' θ''→xUu P w m s a ok' m'' θ'' ps x
 | [],x,θ,θ',g,mm,hs,hp=>by
   simp only [yNj,Option.some.injEq,Prod.mk.injEq] at hp
   obtain ⟨_,rfl,rfl⟩:=hp
   exact ⟨fun _ _ h=>h,mm,hs,vH.refl _,by simp,fun ok' m'' θ'' _ _ _=>⟨fun _ h0=>h0,fun R c hc=>by simp [wI] at hc,fun R hR=>by simp [wI] at hR⟩⟩
 |p::ps,x,θ,θ',g,mm,hs,hp=>by
  simp only [yNj] at hp
  split at hp
  ·simp at hp
  ·rename_i y θ1 g1 h1
   split at hp
   ·simp at hp
   ·rename_i z θ2 g2 h2
    simp only [Option.some.injEq,Prod.mk.injEq] at hp
    obtain ⟨rfl,rfl,rfl⟩:=hp
    obtain ⟨gr1,mm1,h3,h4,h5,h6⟩:=xOc h hs h1
    obtain ⟨gr2,mm2,h7,h8,h9,h10⟩:=xBb h h3 h2
    refine ⟨fun R src hR=>gr2 R src (gr1 R src hR),mm2,h7,h4.trans h8,fun r hr=> ?_,fun ok' m'' θ'' hk he hθ=> ?_⟩
    ·rcases List.mem_append.1 hr with hr|hr
     ·exact h5 r hr
     ·exact h9 r hr
    ·have A:=h6 ok' m'' θ'' hk.left (h8.trans he) (fun R src hR=>hθ R src (gr2 R src hR))
     have B:=h10 ok' m'' θ'' hk.right he hθ
     rcases A.one with ⟨i,l,a1,a2,a3⟩|⟨R,c,a1,a2,a3,a4⟩
     ·refine ⟨fun e0 h0=> ?_, ?_, ?_⟩
      ·rw [a1];exact B.env _ (xU9 a3 h0)
      ·rw [a2];exact B.mem
      ·rw [a2];exact B.src
     ·refine ⟨fun e0 h0=> ?_,fun R' c' hc=> ?_,fun R' hc=> ?_⟩
      ·rw [a1];exact B.env _ h0
      ·rw [a2] at hc
       have hc:cond (Nat.beq R' R) (some c) (wI ps z R')=some c':=hc
       cases hb:Nat.beq R' R with
       |true=>
        rw [hb] at hc
        simp at hc;subst hc
        rw [Nat.eq_of_beq_eq_true hb]
        exact a3
       |false=>rw [hb] at hc;exact B.mem R' c' hc
      ·rw [a2] at hc
       have hc:(cond (Nat.beq R' R) (some c) (wI ps z R')).isSome:=hc
       cases hb:Nat.beq R' R with
       |true=>rw [Nat.eq_of_beq_eq_true hb];exact a4
       |false=>rw [hb] at hc;exact B.src R' hc
end
end Go.GG
namespace Go.GG
open Go.RowKit
def zN1 (r:Option Nat):Fence:= {Fence.wide with round:=r}
theorem xNj {r:Option Nat} {n:Nat} {P:Program} {f:FuncId} {args:Array Value} {w:World} {R:Ending→World→Prop} (h:Calls P f args w R):CallsIn (zN1 r) n P f args w R:=by
 have h1:CallsIn Fence.wide n P f args w R:=callsIn_wide.2 h
 exact h1
theorem xPw {r:Option Nat} {n:Nat} {P:Program} {row:String} {args:Array Value} {w:World} {R:Value→World→Prop} (h:Rows P row args w R):RowsIn (zN1 r) n P row args w R:=by
 have h1:RowsIn Fence.wide n P row args w R:=fun c cs _=>by
  obtain ⟨v,w',h1,h2⟩:=h c cs
  exact ⟨v,w',h1,stepsIn_wide.2 h2⟩
 exact h1
theorem xU3 {r:Option Nat} {n:Nat} {P:Program} {o:Oper} {a:Act} {w:World} {K K':Act→World→Prop} {Q:Exit→Act→World→Prop} (hd:r=none∨yCo o.op=true) (hK:∀a w,K a w→K' a w)
 (h:o.wp P a w K Q):o.wpIn (zN1 r) n P a w K' Q:=by
 unfold Oper.wp at h
 unfold Oper.wpIn
 refine ⟨fun _ _=>trivial, ?_⟩
 have e:Oper.semAt (zN1 r).round a.eval o=execOp a.eval o:=by
  rcases hd with rfl|hd
  ·rfl
  ·exact Oper.semAt_eq _ _ _ fun c hc=>by rw [hc] at hd;cases hd
 rw [e]
 generalize (execOp a.eval o).run P w=res at*
 cases res with
 |ok x w'=>
  cases x<;>simp only [Oper.upon,Oper.uponIn] at h ⊢<;>
   first
    |exact hK _ _ h
    |exact ⟨fun h=>by simp [zN1,Fence.wide] at h,(xNj h).mono (fun e w'' he=>by cases e<;>first|exact hK _ _ he|exact he)⟩
    |exact ⟨fun h=>by simp [zN1,Fence.wide] at h,(xPw h).mono (fun _ _ he=>hK _ _ he)⟩
 |halt x w'=>cases x<;>simp only [Oper.upon,Oper.uponIn] at h ⊢<;>exact h
theorem xMb {r:Option Nat} {n:Nat} {P:Program} {ops:Array Oper} {Q:Exit→Act→World→Prop} (hq:¬LetsOut Q) (hd:∀o∈ops.toList,r=none∨yCo o.op=true) {i:Nat} {a:Act} {w:World} {K K':Act→World→Prop}
 (hK:∀a w,K a w→K' a w) (h:wpOp P ops Q i K a w):wpOpIn (zN1 r) n P ops Q i K' a w:=by
 unfold wpOp at h
 unfold wpOpIn
 cases ho:ops[i]? with
 |none=>rw [ho] at h;exact hK _ _ h
 |some o=>
  rw [ho] at h
  simp only at h ⊢
  split
  ·rename_i hw
   rw [if_pos hw] at h
   rcases h with h|⟨_,h⟩
   ·exact xU3 (hd o (by simpa using Array.mem_of_getElem? ho)) hK h
   ·exact absurd h hq
  ·rename_i hw
   rw [if_neg hw] at h
   exact ⟨fun _ _=>trivial,hK _ _ h⟩
theorem xH7 {r:Option Nat} {n:Nat} {P:Program} {ops:Array Oper} {Q:Exit→Act→World→Prop} (hq:¬LetsOut Q) (hd:∀o∈ops.toList,r=none∨yCo o.op=true):
 ∀(l:List Nat) {a:Act} {w:World},wpOps P ops Q l a w→wpOpsIn (zN1 r) n P ops Q l a w
 | [],a,w,h=>h
 |i::l,a,w,h=>by
  rw [wpOps_cons] at h
  rw [wpOpsIn_cons]
  exact xMb hq hd (fun a w h=>xH7 hq hd l h) h
theorem xKk {r:Option Nat} {n:Nat} {P:Program} {md:Region.Mode} {ops:Array Oper} {Q:Exit→Act→World→Prop} (hq:¬LetsOut Q) (hd:∀o∈ops.toList,r=none∨yCo o.op=true):
 ∀(k:Nat) {l:Array Bool} {a:Act} {w:World},wpAny P md ops Q k l a w→wpAnyIn (zN1 r) n P md ops Q k l a w
 |0,_,a,w,h=>h
 |k+1,l,a,w,h=>⟨h.1,fun i hi=>xMb hq hd (fun a w h=>xKk hq hd k h) (h.2 i hi)⟩
end Go.GG
namespace Go.GG
open Go.RowKit
section
variable {τ:yG} {P:Program} {E:xI} {s:St} {a:Act} {w:World}
theorem yPr:∀ {θ:Sub} {R d:Nat},θ.get R=some (.ref d)→d∈θ.olds
 | [],_,_,h=>by simp [Sub.get] at h
 |(a,src)::θ,R,d,h=>by
  rw [zTq] at h
  split at h
  ·simp at h;subst h;simp [Sub.olds]
  ·have:=yPr h
   cases src<;>simp [Sub.olds,this]
theorem xIj:∀ {θ:Sub} {R R' d:Nat},θ.olds.Nodup→θ.get R=some (.ref d)→θ.get R'=some (.ref d)→R=R'
 | [],_,_,_,_,h,_=>by simp [Sub.get] at h
 |(a,src)::θ,R,R',d,hn,h,h'=>by
  rw [zTq] at h h'
  have hn':(Sub.olds θ).Nodup:=by
   cases src<;>simp only [Sub.olds] at hn
   ·exact (List.nodup_cons.1 hn).2
   ·exact hn
   ·exact hn
   ·exact hn
  split at h<;>split at h'
  ·omega
  ·simp at h;subst h
   simp only [Sub.olds] at hn
   exact absurd (yPr h') (List.nodup_cons.1 hn).1
  ·simp at h';subst h'
   simp only [Sub.olds] at hn
   exact absurd (yPr h) (List.nodup_cons.1 hn).1
  ·exact xIj hn' h h'
theorem xCf:∀ {θ:Sub} {R:Nat} {src:Src},θ.get R=some src→(R,src)∈θ
 | [],_,_,h=>by simp [Sub.get] at h
 |(a,s0)::θ,R,src,h=>by
  rw [zTq] at h
  split at h
  ·rename_i e;subst e;simp at h;subst h;simp
  ·simp [xCf h]
theorem xB3:∀ {θ:Sub} {R:Nat} {src:Src},yTs θ=true→(R,src)∈θ→zD≤R→src= .ref R
 | [],_,_,_,h,_=>by simp at h
 |(a,s0)::θ,R,src,hl,h,hb=>by
  simp only [yTs,Bool.and_eq_true] at hl
  cases h with
  |head=>
   have hb':Nat.ble zD a=true:=by rw [Nat.ble_eq];exact hb
   cases s0 with
   |ref d=>
    have h1:=hl.1
    simp only [hb',Bool.true_or,cond_true] at h1
    rw [Nat.eq_of_beq_eq_true h1]
   |nil=>have h1:=hl.1;simp [hb'] at h1
   |dnil=>have h1:=hl.1;simp [hb'] at h1
   |full t xs=>have h1:=hl.1;simp [hb'] at h1
  |tail _ h=>exact xB3 hl.2 h hb
theorem xGh {p:Pat} {x:RD PE.den p.dyn} (hc:xCt p s=some x) (hr:zD1 P E s a w):zD1 P E (p.state x) a w:=by
 obtain ⟨m,h⟩:=hr
 unfold xCt at hc
 split at hc
 ·simp at hc
 ·rename_i θ0 hb
  split at hc
  ·simp at hc
  ·rename_i x' θ g hp
   cases hk:(nodup θ.olds&&zPk θ.olds g&&(yTs θ&&θ.all fun q=>(zRe p.dyn).contains q.1)) with
   |false=>rw [hk] at hc;simp at hc
   |true=>
    rw [hk] at hc
    simp at hc;subst hc
    simp only [Bool.and_eq_true,List.all_eq_true] at hk
    obtain ⟨⟨hn,hdj⟩,hlent,hkeys⟩:=hk
    have hnd:θ.olds.Nodup∧True∧∀d∈θ.olds,∀r∈g,d=r→False:=⟨nodup_iff hn,trivial,fun d hd r hr e=>by
     subst e
     simp only [zPk,List.all_eq_true] at hdj
     have:=hdj d hd
     simp [hr] at this⟩
    obtain ⟨mm0,h1,_,h3⟩:=yT0 h .nil hb
    obtain ⟨_,mm,h4,h5,h6,h7⟩:=xBb h h1 hp
    let m':=look mm
    let μ':=wI p.dyn x'
    have back:∀ {R i},m' R=some i→∃src,θ.get R=some src∧zCx w (zK E m s.mem w) m src i:=fun hi=>h4.back hi
    have ofBlock:∀ {R i b},m' R=some i→b∈i.blocks→∃d,θ.get R=some (.ref d)∧m d=some i:=by
     intro R i b hi hbk
     obtain ⟨src,hg,hs⟩:=back hi
     cases src with
     |ref d=>exact ⟨d,hg,hs⟩
     |nil=>simp only [zCx] at hs;subst hs;simp [zF.blocks] at hbk
     |dnil=>simp only [zCx] at hs;subst hs;simp [zF.blocks] at hbk
     |full t xs=>simp only [zCx] at hs;obtain ⟨v,rfl,_⟩:=hs;simp [zF.blocks] at hbk
    have alive:∀ {b},Vof m' μ' b→∃R d i,(μ' R).isSome∧θ.get R=some (.ref d)∧m d=some i∧b∈i.blocks∧(s.mem d).isSome:=by
     rintro b ⟨R,c,i,hc,hi,hbk⟩
     obtain ⟨d,hg,hd⟩:=ofBlock hi hbk
     have:(s.mem d).isSome:=by
      obtain ⟨src,hsrc,hal⟩:=(h7 (fun _=>True) m' θ ⟨fun _ _=>trivial,fun _ _ _ _ _ _=>trivial⟩ (vH.refl _) (fun _ _ h=>h)).src R (by show (μ' R).isSome=true;rw [hc];rfl)
      rw [hg] at hsrc;simp at hsrc;subst hsrc
      exact hal d rfl
     exact ⟨R,d,i,by rw [hc];rfl,hg,hd,hbk,this⟩
    have vof:∀b,Vof m' μ' b→Vof m s.mem b:=by
     intro b hv
     obtain ⟨R,d,i,_,_,hd,hbk,hal⟩:=alive hv
     obtain ⟨c,hc⟩:=Option.isSome_iff_exists.1 hal
     exact ⟨d,c,i,hc,hd,hbk⟩
    have inj:∀r r' i i' bl,(s.mem r).isSome→(s.mem r').isSome→m r=some i→m r'=some i'→bl∈i.blocks→bl∈i'.blocks→r=r':=by
     intro r r' i i' bl hr hr' hi hi' hb hb'
     obtain ⟨c,hc⟩:=Option.isSome_iff_exists.1 hr
     obtain ⟨c',hc'⟩:=Option.isSome_iff_exists.1 hr'
     exact h.inj r r' c c' i i' bl hc hc' hi hi' hb hb'
    have lets:zSz E m s w (zK E m' μ' w) g:=by
     refine ⟨fun b hb=>⟨hb.1,hb.2.1,fun hv=>hb.2.2 (vof b hv)⟩,fun r hr i b hi hbk=> ?_⟩
     obtain ⟨c,hc⟩:=Option.isSome_iff_exists.1 (h6 r hr)
     obtain ⟨i',h8,_,h9⟩:=h.mem r c hc
     rw [hi] at h8;simp at h8;subst h8
     refine ⟨(h9 b hbk).1, .inr (h9 b hbk).2,fun hv=> ?_⟩
     obtain ⟨R,d,i',_,hg,hd,hbk',hal⟩:=alive hv
     have:=inj r d i i' b (h6 r hr) hal hi hd hbk hbk'
     subst this
     exact hnd.2.2 _ (yPr hg) _ hr rfl
    have pk:=h7 (zK E m' μ' w) m' θ lets (vH.refl _) (fun _ _ h=>h)
    refine ⟨m',pk.env _ (h3 _ _ h5),fun R c hc=> ?_,fun R R' c c' i i' b hc hc' hi hi' hbk hbk'=> ?_,fun R hR=> ?_,fun R hR hl=> ?_,h.goes,h.size,h.defers.keeps (fun b hb=>⟨⟨lets.old b hb.1,hb.2⟩,rfl⟩),fun R i hi=> ?_,h.keep⟩
    ·obtain ⟨i,h8,h9,h10⟩:=pk.mem R c hc
     refine ⟨i,h8,h9,fun b hbk=> ?_⟩
     obtain ⟨d,hg,hd,hal⟩:=h10 b hbk
     obtain ⟨c',hc'⟩:=Option.isSome_iff_exists.1 hal
     obtain ⟨i',h11,_,h12⟩:=h.mem d c' hc'
     rw [hd] at h11;simp at h11;subst h11
     exact h12 b hbk
    ·obtain ⟨i1,h8,_,h10⟩:=pk.mem R c hc
     rw [hi] at h8;simp at h8;subst h8
     obtain ⟨i2,h8,_,h10'⟩:=pk.mem R' c' hc'
     rw [hi'] at h8;simp at h8;subst h8
     obtain ⟨d,hg,hd,hal⟩:=h10 b hbk
     obtain ⟨d',hg',hd',hal'⟩:=h10' b hbk'
     have:=inj d d' i i' b hal hal' hd hd' hbk hbk'
     subst this
     exact xIj hnd.1 hg hg'
    ·cases hx:m' R with
     |none=>exact absurd hx hR
     |some i=>
      obtain ⟨src,hg,_⟩:=back hx
      exact hkeys _ (xCf hg)
    ·obtain ⟨src,hg,hal⟩:=pk.src R hR
     have:=xB3 hlent (xCf hg) hl
     subst this
     obtain ⟨b,h8,h9⟩:=h.lent R (hal R rfl) hl
     obtain ⟨i,h10,h11⟩:=(h4.look (R:=R)).2 hg
     simp only [zCx] at h11
     rcases h9 with h9|⟨bs,h9⟩
     ·rw [h9] at h11;simp at h11;subst h11
      exact ⟨b,h8, .inl h10⟩
     ·rw [h9] at h11;simp at h11;subst h11
      exact ⟨b,h8, .inr ⟨bs,h10⟩⟩
    ·obtain ⟨src,_,hs⟩:=back hi
     cases src with
     |ref d=>exact h.shape d i hs
     |nil=>simp only [zCx] at hs;subst hs;exact ⟨_,_,_,rfl⟩
     |dnil=>simp only [zCx] at hs;subst hs;exact ⟨List.nodup_nil,_,_,_,rfl⟩
     |full t xs=>simp only [zCx] at hs;obtain ⟨v,rfl,_,A,rfl⟩:=hs;exact ⟨_,_,_,rfl⟩
theorem zJl {p:Pat} {x:RD PE.den p.dyn} (hc:yOg p s=some x) (hr:zD1 P E s a w):zD1 P E (p.state x) a w:=by
 obtain ⟨m,h⟩:=hr
 exact xGh hc (yMm h)
theorem zUr {R:Type} {K:AE→St→Option R} {r:R} {e:AE}:∀ {outs:List (AE×Pat)} {o:OD outs},yPn outs e s=some o→yQ8 outs o K=some r→zD1 P E s a w→
 ∃s',K e s'=some r∧zD1 P E s' a w
 | [],o,h,_,_=>by simp [yPn] at h
 | [o1],o,h,hd,hr=>by
   simp only [yPn] at h
   split at h
   ·rename_i he
    subst he
    exact ⟨_,hd,zJl h hr⟩
   ·simp at h
 |o1::o2::outs,o,h,hd,hr=>by
  simp only [yPn] at h
  split at h
  ·rename_i he
   subst he
   split at h
   ·rename_i x hx
    simp at h;subst h
    exact ⟨_,hd,zJl hx hr⟩
   ·simp at h
  ·split at h
   ·rename_i y hy
    simp at h;subst h
    exact zUr (outs:=o2::outs) hy hd hr
   ·simp at h
def AE.out:AE→Exit
 | .normal=> .normal
 | .exit id=> .exit id
 | .ret=> .ret
theorem xE2 {N:Nat}:∀ {l:List Oper},xAx N l=true→∀o∈l,∀n,o.dst=some n→n<N
 | [],_,o,ho,_,_=>by simp at ho
 |o1::l,h,o,ho,n,hn=>by
  simp only [xAx,Bool.and_eq_true] at h
  cases ho with
  |head=>rw [hn] at h;exact Nat.le_of_ble_eq_true h.1
  |tail _ ho=>exact xE2 h.2 o ho n hn
theorem yT5:∀ {l:List Oper} {i j:Nat} {o:Oper},l[j]? =some o→(i+j,o)∈zMu i l
 | [],_,_,_,h=>by simp at h
 |o1::l,i,j,o,h=>by
  cases j with
  |zero=>simp at h;subst h;simp [zMu]
  |succ j=>
   simp only [List.getElem?_cons_succ] at h
   have:=yT5 (i:=i+1) h
   simp only [zMu,List.mem_cons]
   right
   have e:i+1+j=i+(j+1):=by omega
   rw [←e];exact this
theorem xFw {ops:Array Oper} {b:Array Nat}:∀ {l:List Oper} {n:Nat},xAc ops b (zMu n l)=true→∀(j i:Nat) (oj oi:Oper),j<i→l[j]? =some oj→l[i]? =some oi→
 oj.apart ops oi=true∨(b.getD (n+i) 0).testBit (n+j)=true
 | [],_,_,j,i,oj,oi,_,h,_=>by simp at h
 |o1::l,n,h,j,i,oj,oi,hji,hj,hi=>by
  simp only [zMu,xAc,Bool.and_eq_true,List.all_eq_true,Bool.or_eq_true] at h
  cases i with
  |zero=>omega
  |succ i=>
   simp only [List.getElem?_cons_succ] at hi
   cases j with
   |zero=>
    simp at hj;subst hj
    have:=h.1 _ (yT5 (i:=n+1) hi)
    simp only at this
    have e:n+1+i=n+(i+1):=by omega
    rw [e] at this
    exact this
   |succ j=>
    simp only [List.getElem?_cons_succ] at hj
    have:=xFw h.2 j i oj oi (by omega) hj hi
    have e:n+1+i=n+(i+1):=by omega
    have e':n+1+j=n+(j+1):=by omega
    rw [e,e'] at this
    exact this
theorem xAl:∀ {l:List Oper} {n:Nat},yVv (zMu n l)=true→∀(i:Nat) (o:Oper) (e:Edge),l[i]? =some o→e∈o.after.toList→Region.binds .any e=true→e.on<n+i
 | [],_,_,i,o,e,h,_,_=>by simp at h
 |o1::l,n,h,i,o,e,hi,he,hb=>by
  simp only [zMu,yVv,Bool.and_eq_true,List.all_eq_true,Bool.or_eq_true] at h
  cases i with
  |zero=>
   simp at hi;subst hi
   rcases h.1 e he with h1|h1
   ·rw [hb] at h1;simp at h1
   ·exact Nat.le_of_ble_eq_true h1
  |succ i=>
   simp only [List.getElem?_cons_succ] at hi
   have:=xAl h.2 i o e hi he hb
   omega
theorem zD1.drawn (h:zD1 P E s a w):zD1 P E s a {w with drawn:=w.drawn+1}:=by
 obtain ⟨m,h⟩:=h
 exact ⟨m,h.grow (w':= {w with drawn:=w.drawn+1}) ⟨rfl,rfl,rfl,Nat.le_refl _,fun _ _=>rfl⟩⟩
theorem xJk {tab:Tab} (hT:vI P tab) {Γ:Env} (hΓ:zCy P Γ) (hm:P.follows .mixedOrders=true) {k id:Nat} {ops:Array Oper} {draw:Bool} {R:Type} {K:St→Option R} {r:R} {Q:Exit→Act→World→Prop} {ro:Option Nat} {d:Nat}
 (hreg:jI E.N (.region id ops draw)=true) (hkeep:∀t∈zAs (.region id ops draw),E.keep t=none) (hpl:ro=none∨zA6 (.region id ops draw)=true) (hout:∀a w,¬Q .outgrown a w)
 (he:xD7 tab Γ k ops draw s K=some r) (h:zD1 P E s a w) (hQ:∀s' a' w',K s'=some r→zD1 P E s' a' w'→Q .normal a' w'):(Code.region id ops draw).wpIn (zN1 ro) d P Q a w:=by
 simp only [jI,Bool.and_eq_true] at hreg
 have hd:∀(i:Nat) (o:Oper),ops[i]? =some o→∀n,o.dst=some n→E.may n:=fun i o ho n hn=>
  ⟨xE2 hreg.1 o (by simpa using Array.mem_of_getElem? ho) n hn,hkeep n (by
   simp only [zAs,List.mem_filterMap]
   exact ⟨o,by simpa using Array.mem_of_getElem? ho,hn⟩)⟩
 have hq:¬LetsOut Q:=fun ⟨a,w,h⟩=>hout a w h
 have hnd:∀o∈ops.toList,ro=none∨yCo o.op=true:=fun o ho=>hpl.imp (fun h=>h) fun h=>by
  simp only [zA6,List.all_eq_true] at h
  exact h o ho
 unfold xD7 at he
 obtain ⟨gs,sf,h1,h2⟩:=xJx (ops:=ops) (rest:=ops.toList) (fun j=>by simp) he
 have hl:List.range' 0 ops.toList.length=List.range ops.size:=by rw [List.range_eq_range'];simp
 rw [hl] at h1
 cases draw with
 |false=>exact wpIn_region (xH7 hq hnd _ (xE5 hT hΓ hd h1 h fun a' w' h'=>hQ sf a' w' h2 h'))
 |true=>
  simp only [List.append_nil] at h2
  cases hf:yOp (Region.before ops) gs.reverse with
  |false=>rw [hf] at h2;simp at h2
  |true=>
   rw [hf] at h2
   have hreg2:=hreg.2
   simp only [Bool.not_true,Bool.false_or,Bool.and_eq_true] at hreg2
   have hfree:=ySz hf
   rw [List.reverse_reverse] at hfree
   have hleft:left ops (Array.replicate ops.size false)=List.range ops.size:=by
    unfold left
    apply List.filter_eq_self.2
    intro i hi
    have:=List.mem_range.1 hi
    simp [this]
   refine wpIn_region_any hm (xKk hq hnd _ (xEx hT hΓ hd ?_ ?_ (sf:=sf) (fun a' w' h'=>hQ sf a' w' h2 h') ops.size _ s gs a _ (by rw [hleft];simp) (by rw [hleft];exact h1) hfree ?_ h.drawn))
   ·intro j i oj oi hji hj hi
    have:=xFw hreg2.1 j i oj oi hji (by simpa using hj) (by simpa using hi)
    simpa using this
   ·intro i o e ho he' hb
    have:=xAl hreg2.2 i o e (by simpa using ho) he' hb
    omega
   ·intro i o e _ hi _ _
    simp at hi
    by_cases hlt:i<ops.size
    ·simp [hlt] at hi
    ·simp [hlt] at hi
end
end Go.GG
namespace Go.GG
open Go.RowKit
section
variable {τ:yG} {P:Program}
theorem Rel.shiftK {E:xI} {m:zO} {s:St} {a:Act} {w:World} (h:Rel P E m s a w) {E2:xI} {a2:Act} {w2:World}
 (hk:zS w w2 (zK E m s.mem w) (zK E2 m s.mem w2))
 (hown:∀b,Vof m s.mem b→b<w2.heap.size∧(E2.V0 b∨E2.w0.heap.size≤b)∧w2.heap[b]? =w.heap[b]?)
 (hlent:E2.lent=E.lent) (hgoes:kV E2.V0 E2.w0 w2) (henv:∀t,s.env t= .unk∨a2.tmps.getD t undef=a.tmps.getD t undef) (hsize:a2.tmps.size=E2.N)
 (hdef:zWg (fun b=>zK E2 m s.mem w2 b∧E2.low≤b) w2 a2.defers) (hkeep:∀t v,E2.keep t=some v→a2.tmps.getD t undef=v):Rel P E2 m s a2 w2:=by
 refine ⟨fun t=> ?_,fun r c hc=> ?_,h.inj,h.used,fun r hr hb=> ?_,hgoes,hsize,hdef,h.shape,hkeep⟩
 ·rcases henv t with e|e
  ·rw [e];trivial
  ·rw [e];exact (h.env t).mono hk (Ext.refl m)
 ·obtain ⟨i,h1,h2,h3⟩:=h.mem r c hc
  have hv:∀b,b∈i.blocks→Vof m s.mem b:=fun b hb=>⟨r,c,i,hc,h1,hb⟩
  exact ⟨i,h1,h2.mono hk (Ext.refl m) (fun b hb=>(hown b (hv b hb)).2.2),fun b hb=>⟨(hown b (hv b hb)).1,(hown b (hv b hb)).2.1⟩⟩
 ·rw [hlent];exact h.lent r hr hb
theorem Rel.shift {E:xI} {m:zO} {s:St} {a:Act} {w:World} (h:Rel P E m s a w) {E2:xI} {a2:Act} {w2:World}
 (hok:∀b,zK E m s.mem w b→zK E2 m s.mem w2 b∧w2.heap[b]? =w.heap[b]?)
 (hown:∀b,Vof m s.mem b→b<w2.heap.size∧(E2.V0 b∨E2.w0.heap.size≤b)∧w2.heap[b]? =w.heap[b]?)
 (hlent:E2.lent=E.lent) (hgoes:kV E2.V0 E2.w0 w2) (henv:∀t,s.env t= .unk∨a2.tmps.getD t undef=a.tmps.getD t undef) (hsize:a2.tmps.size=E2.N)
 (hdef:zWg (fun b=>zK E2 m s.mem w2 b∧E2.low≤b) w2 a2.defers) (hkeep:∀t v,E2.keep t=some v→a2.tmps.getD t undef=v):Rel P E2 m s a2 w2:=
 h.shiftK (zS.of hok) hown hlent hgoes henv hsize hdef hkeep
def outer (E:xI) (l D b:Nat):Prop:=b≠l∧b≠D∧(E.ok0 b∨E.V0 b∨E.w0.heap.size≤b)
def zSm (E:xI) (l D:Nat) (kp:Nat→Option Value) (W:World) (V:Nat→Prop) (hf:yG.fine W fun b=>outer E l D b∧¬V b):xI:=
 {w0:=W,ok0:=outer E l D,V0:=V,lent:=E.lent,N:=E.N,keep:=kp,low:=0,lowOk:=Nat.zero_le _,fine:=hf}
structure zRp (E:xI) (l D:Nat) (ok:Nat→Prop) (w:World) (V:Nat→Prop) (W:World):Prop where
 base:E.w0.heap.size≤l∧E.w0.heap.size≤D
 own:∀b,V b→b≠l∧b≠D∧(E.V0 b∨E.w0.heap.size≤b)
 goes:kV E.V0 E.w0 W
 lt:l<W.heap.size∧D<W.heap.size
 okl:∀b,ok b→b<W.heap.size∧b≠l∧b≠D∧W.heap[b]? =w.heap[b]? ∧¬V b
section
variable {E:xI} {l D:Nat} {ok:Nat→Prop} {w W W1:World} {V:Nat→Prop} {kp:Nat→Option Value} {hf:yG.fine W fun b=>outer E l D b∧¬V b} {m:zO} {s:St} {a:Act}
theorem zRp.fresh (h:zRp E l D ok w V W) {b:Nat} (hb:W.heap.size≤b):b≠l∧b≠D∧E.w0.heap.size≤b:=⟨by have:=h.lt.1;omega,by have:=h.lt.2;omega,Nat.le_trans h.goes.size hb⟩
theorem zRp.vof (h:zRp E l D ok w V W) (hr:Rel P (zSm E l D kp W V hf) m s a W1) {b:Nat} (hb:Vof m s.mem b):b<W1.heap.size∧(V b∨W.heap.size≤b):=by
 obtain ⟨r,c,i,h1,h2,h3⟩:=hb
 obtain ⟨i',h4,_,h5⟩:=hr.mem r c h1
 rw [h2] at h4
 obtain rfl:=Option.some.inj h4
 exact h5 b h3
theorem zRp.isOuter (h:zRp E l D ok w V W) {b:Nat} (hb:(zSm E l D kp W V hf).ok0 b∨(zSm E l D kp W V hf).V0 b∨(zSm E l D kp W V hf).w0.heap.size≤b):outer E l D b:=by
 rcases hb with hb|hb|hb
 ·exact hb
 ·obtain ⟨h1,h2,h3⟩:=h.own b hb
  exact ⟨h1,h2,h3.elim (fun h=> .inr (.inl h)) fun h=> .inr (.inr h)⟩
 ·obtain ⟨h1,h2,h3⟩:=h.fresh hb
  exact ⟨h1,h2, .inr (.inr h3)⟩
theorem zRp.step (h:zRp E l D ok w V W) (hr:Rel P (zSm E l D kp W V hf) m s a W1) (o:Obj):zRp E l D ok w (Vof m s.mem) (W1.putObj l o):=by
 have hl:∀b,b≠l→(W1.putObj l o).heap[b]? =W1.heap[b]? :=fun b hb=>World.putObj_heap_other hb
 have hg:=hr.goes
 refine ⟨h.base,fun b hb=> ?_, ?_, ?_,fun b hb=> ?_⟩
 ·rcases (h.vof hr hb).2 with hv|hv
  ·exact h.own b hv
  ·obtain ⟨h1,h2,h3⟩:=h.fresh hv
   exact ⟨h1,h2, .inr h3⟩
 ·refine ⟨hg.os.trans h.goes.os,hg.tape.trans h.goes.tape,hg.output.trans h.goes.output, ?_,fun b hb hv=> ?_⟩
  ·rw [World.putObj_size];exact Nat.le_trans h.goes.size hg.size
  ·rw [hl b (by have:=h.base.1;omega)]
   refine (hg.block b (Nat.lt_of_lt_of_le hb h.goes.size) fun hV=> ?_).trans (h.goes.block b hb hv)
   rcases (h.own b hV).2.2 with h1|h1
   ·exact hv h1
   ·omega
 ·rw [World.putObj_size];exact ⟨Nat.lt_of_lt_of_le h.lt.1 hg.size,Nat.lt_of_lt_of_le h.lt.2 hg.size⟩
 ·obtain ⟨h1,h2,h3,h4,h5⟩:=h.okl b hb
  refine ⟨by rw [World.putObj_size];exact Nat.lt_of_lt_of_le h1 hg.size,h2,h3, ?_,fun hv=> ?_⟩
  ·rw [hl b h2];exact (hg.block b h1 h5).trans h4
  ·rcases (h.vof hr hv).2 with hv|hv
   ·exact h5 hv
   ·have:W.heap.size≤b:=hv
    omega
theorem zRp.fineAt (h:zRp E l D ok w V W) (hr:Rel P (zSm E l D kp W V hf) m s a W1) (o:Obj):yG.fine (W1.putObj l o) fun b=>outer E l D b∧¬Vof m s.mem b:=
 hr.fine.keeps (zS.of fun b hb=>⟨⟨h.isOuter hb.2.1,hb.2.2⟩,World.putObj_heap_other (h.isOuter hb.2.1).1⟩)
theorem zRp.relAt (h:zRp E l D ok w V W) (hr:Rel P (zSm E l D kp W V hf) m s a W1) (o:Obj) {a2:Act} (henv:∀t,s.env t= .unk∨a2.tmps.getD t undef=a.tmps.getD t undef) (hsize:a2.tmps.size=E.N) (hdef:a2.defers=a.defers∨a2.defers= [])
 (hkeep:∀t v,kp t=some v→a2.tmps.getD t undef=v):Rel P (zSm E l D kp (W1.putObj l o) (Vof m s.mem) (h.fineAt hr o)) m s a2 (W1.putObj l o):=by
 refine hr.shift (fun b hb=>⟨⟨by rw [World.putObj_size];exact hb.1, .inl (h.isOuter hb.2.1),hb.2.2⟩,World.putObj_heap_other (h.isOuter hb.2.1).1⟩)
  (fun b hb=>⟨by rw [World.putObj_size];exact (h.vof hr hb).1, .inl hb,World.putObj_heap_other ((h.step hr o).own b hb).1⟩) rfl (kV.refl _ _) henv hsize (by
   rcases hdef with e|e
   ·rw [e]
    exact hr.defers.keeps fun b hb=>⟨⟨⟨by rw [World.putObj_size];exact hb.1.1, .inl (h.isOuter hb.1.2.1),hb.1.2.2⟩,Nat.zero_le _⟩,World.putObj_heap_other (h.isOuter hb.1.2.1).1⟩
   ·rw [e];exact zWg.nil) hkeep
theorem zRp.stand (h:zRp E l D ok w V W) (hr:Rel P (zSm E l D kp W V hf) m s a W1):W1.heap[l]? =W.heap[l]? ∧W1.heap[D]? =W.heap[D]? :=
 ⟨hr.goes.block l h.lt.1 fun hv=>(h.own l hv).1 rfl,hr.goes.block D h.lt.2 fun hv=>(h.own D hv).2.1 rfl⟩
end
def xA0 (P:Program) (tab:Tab) (Γ:Env) (Λ:zV) (c:Code) (n:Nat):Prop:=
 ∀(k d:Nat) (r:Option Nat) (E:xI),jI E.N c=true→(∀t∈zAs c,E.keep t=none)→(r=none∨zA6 c=true)→
  ∀ {R:Type} {K:AE→St→Option R} {y:R} {s:St} {a:Act} {w:World} {Q:Exit→Act→World→Prop},zFm tab Γ Λ k n c s K=some y→zD1 P E s a w→(∀a w,¬Q .outgrown a w)→
    (∀e s' a' w',K e s'=some y→zD1 P E s' a' w'→Q e.out a' w')→c.wpIn (zN1 r) d P Q a w
theorem yOw:∀ {ps:List PE} {x:RD PE.den ps} {e:Nat→L} {t:Nat},t∉zMg ps→wQ ps x e t=e t
 | [],_,_,_,_=>rfl
 |p::ps,x,e,t,h=>by
  have cut:∀ {i:Nat} {l l':L},t≠i→cond (Nat.beq t i) l l'=l':=fun {i l l'} hne=>by
   cases hb:Nat.beq t i with
   |false=>rfl
   |true=>exact absurd (Nat.eq_of_beq_eq_true hb) hne
  cases p<;>simp only [zMg,List.mem_cons,not_or] at h<;>simp only [wQ]<;>first
   |(rw [yOw h.2];exact cut h.1)
   |exact yOw h
theorem yW7:∀ {l:List (Nat×L)} {t:Nat},t∉l.map (·.1)→yCd l t= .unk
 | [],_,_=>rfl
 |(i,v)::r,t,h=>by
  simp only [List.map_cons,List.mem_cons,not_or] at h
  simp only [yCd]
  cases hb:Nat.beq t i with
  |false=>exact yW7 h.2
  |true=>exact absurd (Nat.eq_of_beq_eq_true hb) h.1
theorem xOy {p:Pat} {x:RD PE.den p.dyn} {t:Nat} (h:t∉yIr p):(p.state x).env t= .unk:=by
 simp only [yIr,List.mem_append,not_or] at h
 show wQ p.dyn x (yCd p.stat) t= .unk
 rw [yOw h.1,yW7 h.2]
end
end Go.GG
namespace Go.GG
open Go.RowKit
section
variable {τ:yG} {P:Program} {tab:Tab} {Γ:Env} {Λ:zV}
theorem xO8 {g:FuncId} {sp:zE} {t:T} (h:zUo P g sp) (hps:sp.ps= [.iter t]):yBy P g∧∃rs F,xO6 P g ⟨[.iter t],rs,F⟩:=by
 obtain ⟨hr,⟨t',F,rfl,_⟩|⟨g',rs0,F,rfl,_⟩|⟨g',F,rfl,_⟩|⟨rs0,F,rfl,_⟩|hb⟩:=h
 ·cases hps
 ·cases hps
 ·cases hps
 ·cases hps
 ·refine ⟨hr, ?_⟩
  have hb':=hb
  obtain ⟨t',rs,F,rfl,_⟩:=hb'
  simp only [List.cons.injEq,PK.iter.injEq,and_true] at hps
  subst hps
  exact ⟨rs,F,hb⟩
theorem yMd {w:World} {o:Obj} {b:Nat} (h:b<w.heap.size):(w.alloc o).heap[b]? =w.heap[b]? :=Below.heap_alloc w o b h
theorem xI2 (hΓ:zCy P Γ) {n:Nat} {assign body:Code} {p:Pat} {t:T} {g gt p0 p1:Nat} {get:RD PE.den p.dyn→List t.den} {B:Nat→Nat→t.den→RD PE.den p.dyn→Option (RD PE.den p.dyn)} {sp:zE}
 (hsp:sp∈Γ g) (hspp:sp.ps= [.iter t]) (hget:∀x,(p.state x).env gt= .val (.box g (.slice t)) (get x)) (hB':∀k i e x,B k i e x=xHn tab Γ Λ k n assign body p p0 p1 t i e x) (hfine:yVe p p0 p1 assign body=true)
 (hA:xA0 (τ:=τ) P tab Γ Λ assign (n+1)) (hB:xA0 (τ:=τ) P tab Γ Λ body (n+1+zJ0 assign))
 {k d:Nat} {E:xI} (hreg:jI E.N (.rangeFunc (.tmp gt) #[p0,p1] assign body)=true) {z o:RD PE.den p.dyn} (hlen:(get z).length≤4611686018427387904) (ho:zSj (B k) (get z) (get z).length z=some o) {R:Type} {K:AE→St→Option R} {y:R} (hd:K .normal (p.state o)=some y)
 {a:Act} {w:World} (hr:zD1 P E (p.state z) a w) {Q:Exit→Act→World→Prop} (hQ:∀e s' a' w',K e s'=some y→zD1 P E s' a' w'→Q e.out a' w'):(Code.rangeFunc (.tmp gt) #[p0,p1] assign body).wpIn Fence.wide d P Q a w:=by
 obtain ⟨m,h⟩:=hr
 have hv:=h.env gt
 have hgz:(p.state z).env gt= .val (.box g (.slice t)) (get z):=hget z
 rw [hgz] at hv
 have hv0:=hv
 simp only [zL,T.holds] at hv
 obtain ⟨b,C,e,fr,ds,hv1,hbok,hbh,hds,hdj⟩:=hv
 simp only [List.cons.injEq,and_true] at hv1
 obtain ⟨hruns,rs,F,t',rs',F',heq,hbk⟩:=xO8 ((hΓ g sp hsp).2 (by unfold zE.row;rw [hspp])) hspp
 simp only [zE.mk.injEq,List.cons.injEq,PK.iter.injEq,and_true] at heq
 obtain rfl:=heq.1
 clear heq
 simp only [yVe,Bool.and_eq_true,List.all_eq_true] at hfine
 obtain ⟨hne,hpa,hpb,hpt⟩:=hfine
 simp only [jI,Bool.and_eq_true] at hreg
 obtain ⟨hps,hra,hrb⟩:=hreg
 have hp0:p0<E.N∧p1<E.N:=by
  have:=hps
  simp [Nat.blt_eq] at this
  exact this
 obtain ⟨kp,hkp⟩:∃kp:Nat→Option Value,kp=fun t=>if (p0::p1::(zAs assign++zAs body)).contains t then none else some (a.tmps.getD t undef):=⟨_,rfl⟩
 have hkn:∀t,t∈p0::p1::(zAs assign++zAs body)→kp t=none:=fun t ht=>by
  rw [hkp]
  exact if_pos (by simpa using ht)
 have hks:∀t v,kp t=some v→a.tmps.getD t undef=v:=fun t v hv=>by
  rw [hkp] at hv
  dsimp only at hv
  split at hv
  ·cases hv
  ·exact Option.some.inj hv
 have hkt:∀t,t∈yIr p→kp t=some (a.tmps.getD t undef):=fun t ht=>by
  rw [hkp]
  have:=hpt t ht
  simp only [Bool.not_eq_true'] at this
  exact if_neg (by rw [this];simp)
 refine wpIn_rangeFunc (F:=Fence.wide) ?_
 intro fn hfn
 obtain ⟨rec,hrec⟩:∃rec:LoopState→Option Code→Loop,rec=fun st pe=> {state:=st,pending:=pe,fn,tmps:=a.tmps,params:= #[p0,p1],assign,body,defers:=w.heap.size}:=⟨_,rfl⟩
 obtain ⟨W1,hW1⟩:∃W1,(w.alloc (.deferred (some []))).alloc (.loop (rec .ready none))=W1:=⟨_,rfl⟩
 obtain ⟨D,hD⟩:∃D,w.heap.size=D:=⟨_,rfl⟩
 obtain ⟨l,hl⟩:∃l,D+1=l:=⟨_,rfl⟩
 have hlD:l=w.heap.size+1:=by omega
 have hs1:W1.heap.size=D+2:=by rw [←hW1,World.size_alloc,World.size_alloc,hD]
 have hL1:W1.heap[l]? =some (.loop (rec .ready none)):=by
  rw [←hW1,hlD];have:=World.alloc_heap_new (w.alloc (.deferred (some []))) (.loop (rec .ready none));rwa [World.size_alloc] at this
 have hK1:W1.heap[D]? =some (.deferred (some [])):=by
  rw [←hW1,←hD];exact (yMd (by simp)).trans (World.alloc_heap_new w _)
 have hold:∀b,b<D→W1.heap[b]? =w.heap[b]? :=fun b hb=>by
  rw [←hW1,yMd (by rw [World.size_alloc];omega),yMd (by omega)]
 have hx1:W1.os=w.os∧W1.tape=w.tape∧W1.output=w.output:=by rw [←hW1];exact ⟨rfl,rfl,rfl⟩
 have hsz:=h.goes.size
 have vofw:∀ {b},Vof m (p.state z).mem b→b<D∧(E.V0 b∨E.w0.heap.size≤b):=by
  rintro b ⟨r,c,i,h1,h2,h3⟩
  obtain ⟨i',h4,_,h5⟩:=h.mem r c h1
  rw [h2] at h4
  obtain rfl:=Option.some.inj h4
  exact ⟨by rw [←hD];exact (h5 b h3).1,(h5 b h3).2⟩
 have okw:∀ {b},zK E m (p.state z).mem w b→b<D:=fun hb=>by rw [←hD];exact hb.1
 have outs1:zRp E l D (zK E m (p.state z).mem w) w (Vof m (p.state z).mem) W1:=by
  refine ⟨⟨by omega,by omega⟩,fun b hb=>⟨by have:=(vofw hb).1;omega,by have:=(vofw hb).1;omega,(vofw hb).2⟩,⟨hx1.1.trans h.goes.os,hx1.2.1.trans h.goes.tape,hx1.2.2.trans h.goes.output,by omega,fun b hb hv=>(hold b (by omega)).trans (h.goes.block b hb hv)⟩,⟨by omega,by omega⟩,fun b hb=> ?_⟩
  have:=okw hb
  exact ⟨by omega,by omega,by omega,hold b this,hb.2.2⟩
 have fine1:yG.fine W1 fun b=>outer E l D b∧¬Vof m (p.state z).mem b:=h.fine.keeps (zS.of fun b hb=>by
  have:=okw hb
  exact ⟨⟨⟨by omega,by omega,hb.2.1⟩,hb.2.2⟩,hold b this⟩)
 have rel1:Rel P (zSm E l D kp W1 (Vof m (p.state z).mem) fine1) m (p.state z) {tmps:=a.tmps,defers:= []} W1:=by
  refine h.shift (fun b hb=> ?_) (fun b hb=> ?_) rfl (kV.refl _ _) (fun t=> .inr rfl) h.size zWg.nil hks
  ·have:=okw hb
   exact ⟨⟨by omega, .inl ⟨by omega,by omega,hb.2.1⟩,hb.2.2⟩,hold b this⟩
  ·have:=(vofw hb).1
   exact ⟨by omega, .inl hb,hold b this⟩
 have hshow:∀ {W:World} {V:Nat→Prop},zRp E l D (zK E m (p.state z).mem w) w V W→∀ {t:T} {x:t.den} {cs:List Value},t.holds w (zK E m (p.state z).mem w) x cs→t.holds W (zK E m (p.state z).mem w) x cs:=by
  intro W V ho t x cs hh
  exact T.holds_mono (zS.of fun b hb=>⟨hb,(ho.okl b hb).2.2.2.1⟩) hh
 refine ⟨l, [{target:= .collected D,args:= #[]}],W1, {target:= .fn (.func g) #[.pointer (some ⟨b,0,none⟩)],args:= #[.func (.yield l) #[] #[]]},W1,g,
  #[.func (.yield l) #[] #[]]++ #[.pointer (some ⟨b,0,none⟩)],W1, ?_, ?_, ?_, ?_,fun hh=>by simp [Fence.wide] at hh, ?_⟩
 ·rw [←hW1,hrec,hlD,←hD];exact run_enterLoop_outer _ _ _ _ _
 ·have hg:a.eval (.tmp gt)= .func (.func g) #[] #[.pointer (some ⟨b,0,none⟩)]:=hv1
  simp only [resolve,hg]
  simp [go_sem]
 ·intro f' _;trivial
 ·simp [invoke,go_sem,yU5 hruns]
 refine callsIn_wide.2 ((hbk l b (zK E m (p.state z).mem w) (get z) (fun i W=>∃(x:RD PE.den p.dyn) (m':zO) (hf:yG.fine W fun b=>outer E l D b∧¬Vof m' (p.state x).mem b),
  zSj (B k) (get z) i x=some o∧W.heap[l]? =some (.loop (rec .ready none))∧W.heap[D]? =some (.deferred (some []))∧Rel P (zSm E l D kp W (Vof m' (p.state x).mem) hf) m' (p.state x) {tmps:=a.tmps,defers:= []} W∧
  zRp E l D (zK E m (p.state z).mem w) w (Vof m' (p.state x).mem) W) W1 hlen ?_ ?_ ?_ ⟨z,m,fine1,ho,hL1,hK1,rel1,outs1⟩).mono ?_)
 ·rintro i W ⟨x,m',hf,_,_,_,_,outs⟩
  refine hshow outs ?_
  have: [a.tmps.getD gt undef]= [Value.func (.func g) #[] #[.pointer (some ⟨b,0,none⟩)]]:=by rw [hv1]
  rw [←this]
  exact hv0
 ·rintro i W dr ⟨x,m',hf,h1,h2,h3,h4,h5⟩
  refine ⟨x,m',hf,h1,h2,h3, ?_,⟨h5.base,h5.own,⟨h5.goes.os,h5.goes.tape,h5.goes.output,h5.goes.size,h5.goes.block⟩,h5.lt,h5.okl⟩⟩
  refine h4.shift (fun b hb=>⟨⟨hb.1, .inl (h5.isOuter hb.2.1),hb.2.2⟩,rfl⟩) (fun b hb=>⟨(h5.vof h4 hb).1, .inl hb,rfl⟩) rfl (kV.refl _ _) (fun t=> .inr rfl) h.size zWg.nil hks
 ·rintro i x0 W cs hxi ⟨x,m',hf,hbn,hlW,hDW,hrel,houts⟩ hcs
  simp only [zSj,hxi,Option.bind_some] at hbn
  obtain ⟨x1,hx1,hbn1⟩:=Option.bind_eq_some_iff.1 hbn
  rw [hB'] at hx1
  unfold xHn at hx1
  have hy:=run_yield (P:=P) (args:= #[.int .i64 (i:Int), .agg cs.toArray]) hlW (by rw [hrec];rfl)
  rw [hrec] at hy
  refine ⟨fn,_,assign,body,hy,roundIn_of_wpIn (n:=0) trivial ?_⟩
  refine hA k 0 (some l) (zSm E l D kp W (Vof m' (p.state x).mem) hf) hra (fun t ht=>hkn t (by simp [ht])) (.inr hpa) hx1 ⟨m', ?_⟩ (fun _ _ h=>h) ?_
  ·have e1:=hrel.put (d:=some p0) (l:= .val (.int .i64) (i:Int)) (v:= .int .i64 (i:Int)) rfl (fun n hn=>by cases hn;exact ⟨hp0.1,hkn p0 (by simp)⟩)
   have e2:=e1.put (d:=some p1) (l:= .agg (t.explode x0)) (v:= .agg cs.toArray) ⟨cs,rfl,jK (T.holds_mono (zS.of fun b hb=> ?_) hcs)⟩ (fun n hn=>by cases hn;exact ⟨hp0.2,hkn p1 (by simp)⟩)
   ·have hfold:∀v0 v1:Value,Array.foldl (fun (tmps:Array Value) (x:Tmp×Value)=>match x with|(t,a)=>tmps.setIfInBounds t a) a.tmps ((#[p0,p1]:Array Tmp).zip #[v0,v1])=(a.tmps.setIfInBounds p0 v0).setIfInBounds p1 v1:=fun _ _=>by simp
    exact cast (congrArg (fun tm=>Rel P (zSm E l D kp W (Vof m' (p.state x).mem) hf) m' (xPi (p.state x) p0 p1 i t x0) ({tmps:=tm,defers:= []}:Act) W) (hfold _ _).symm) e2
   ·obtain ⟨q1,q2,q3,q4,q5⟩:=houts.okl b hb
    exact ⟨⟨q1, .inl ⟨q2,q3,hb.2.1⟩,q5⟩,rfl⟩
  ·rintro ex s1 a1 Wa hk1 ⟨m1,hr1⟩
   cases ex with
   |exit id=>cases hk1
   |ret=>cases hk1
   |normal=>
    have hst:=houts.stand hr1
    have hla:Wa.heap[l]? =some (.loop (rec .ready none)):=hst.1.trans hlW
    refine ⟨_,run_beginRound hla (by rw [hrec]), ?_⟩
    have o1:=houts.step hr1 (.loop {rec .ready none with state:= .busy})
    have r1:=houts.relAt hr1 (.loop {rec .ready none with state:= .busy}) (a2:=a1) (fun t=> .inr rfl) hr1.size (.inl rfl) hr1.keep
    have hlb:(Wa.putObj l (.loop {rec .ready none with state:= .busy})).heap[l]? =some (.loop {rec .ready none with state:= .busy}):=World.putObj_heap_same (by have:=(Array.getElem?_eq_some_iff.1 hla).1;exact this)
    have hDb:(Wa.putObj l (.loop {rec .ready none with state:= .busy})).heap[D]? =some (.deferred (some [])):=(World.putObj_heap_other (by omega)).trans (hst.2.trans hDW)
    refine hB k 0 (some l) (zSm E l D kp _ (Vof m1 s1.mem) (houts.fineAt hr1 (.loop {rec .ready none with state:= .busy}))) hrb (fun t ht=>hkn t (by simp [ht])) (.inr hpb) hk1 ⟨m1,r1⟩ (fun _ _ h=>h) ?_
    rintro ex s2 a2 Wc hk2 hr2
    cases ex with
    |exit id=>cases hk2
    |ret=>cases hk2
    |normal=>
     obtain ⟨m2,hr2⟩:=zJl hk2 hr2
     have hst2:=o1.stand hr2
     have hlc:=hst2.1.trans hlb
     have hre:=run_endRound (P:=P) none hlc
     refine ⟨_,_,hre,rfl,x1,m2,o1.fineAt hr2 _,hbn1, ?_,(World.putObj_heap_other (by omega)).trans (hst2.2.trans hDb),o1.relAt hr2 _ (fun t=> ?_) h.size (.inr rfl) hks,o1.step hr2 _⟩
     ·rw [World.putObj_heap_same (Array.getElem?_eq_some_iff.1 hlc).1,hrec];rfl
     ·by_cases ht:t∈yIr p
      ·exact .inr (hr2.keep t _ (hkt t ht)).symm
      ·exact .inl (xOy ht)
 ·rintro ex W2 ⟨⟨v,rfl⟩,x,m',hf,hbn,hlW,hDW,hrel,houts⟩
  simp only [zSj,Option.some.injEq] at hbn
  subst hbn
  refine ⟨none,_,by have:=run_endLoop (P:=P) hlW (by rw [hrec];simp);rw [hrec] at this;exact this,hQ .normal _ _ _ hd ⟨m', ?_⟩⟩
  have hn:∀b,b≠l→(W2.putObj l (.loop {state:= .exhausted,pending:=none,fn:=fn,tmps:=a.tmps,params:= #[p0,p1],assign:=assign,body:=body,defers:=w.heap.size})).heap[b]? =W2.heap[b]? :=fun b hb=>World.putObj_heap_other hb
  refine hrel.shift (fun b hb=> ?_) (fun b hb=> ?_) rfl (houts.step hrel _).goes (fun t=> .inr rfl) h.size ?_ h.keep
  ·have ho:=houts.isOuter hb.2.1
   exact ⟨⟨by rw [World.putObj_size];exact hb.1,ho.2.2,hb.2.2⟩,hn b ho.1⟩
  ·exact ⟨by rw [World.putObj_size];exact (houts.vof hrel hb).1,(houts.own b hb).2.2,hn b (houts.own b hb).1⟩
  ·obtain ⟨Ds,q1,q2,q3⟩:=h.defers
   refine ⟨D::Ds,by simp [q1],List.nodup_cons.2 ⟨fun hin=> ?_,q2⟩,fun D' hD'=> ?_⟩
   ·have:=okw (q3 D hin).1.1;omega
   ·rcases List.mem_cons.1 hD' with rfl|hD'
    ·refine ⟨⟨⟨by rw [World.putObj_size];exact houts.lt.2, .inr (.inr (by omega)),fun hv=>(houts.own _ hv).2.1 rfl⟩,by have:=E.lowOk;omega⟩,(hn _ (by omega)).trans hDW⟩
    ·obtain ⟨⟨r1,r2⟩,r3⟩:=q3 D' hD'
     obtain ⟨q4,q5,q6,q7,q8⟩:=houts.okl D' r1
     exact ⟨⟨⟨by rw [World.putObj_size];exact q4,r1.2.1,q8⟩,r2⟩,(hn _ q5).trans (q7.trans r3)⟩
theorem xK3 (hΓ:zCy P Γ) {n:Nat} {x:Operand} {ps:Array Tmp} {assign body:Code} {u:wV} (hu:xMi tab Γ Λ n x ps assign body u) (hA:xA0 (τ:=τ) P tab Γ Λ assign (n+1)) (hB:xA0 (τ:=τ) P tab Γ Λ body (n+1+zJ0 assign))
 {k d:Nat} {E:xI} (hreg:jI E.N (.rangeFunc x ps assign body)=true) {z:RD PE.den u.head.dyn} {o:OD u.outs} (ho:u.F k z=some o) {R:Type} {K:AE→St→Option R} {y:R} (hd:yQ8 u.outs o K=some y)
 {a:Act} {w:World} (hr:zD1 P E (u.head.state z) a w) {Q:Exit→Act→World→Prop} (hQ:∀e s' a' w',K e s'=some y→zD1 P E s' a' w'→Q e.out a' w'):(Code.rangeFunc x ps assign body).wpIn Fence.wide d P Q a w:=by
 obtain ⟨p,t,g,gt,p0,p1,get,B,sp,rfl,rfl,rfl,hleaf,hsp,hspp,hget,hB',hfine⟩:=hu
 have ho':cond (Nat.ble (get z).length 4611686018427387904) (zSj (B k) (get z) (get z).length z) none=some o:=ho
 cases hb:Nat.ble (get z).length 4611686018427387904 with
 |false=>rw [hb] at ho';cases ho'
 |true=>
  rw [hb] at ho'
  exact xI2 hΓ hsp hspp hget hB' hfine hA hB hreg (Nat.le_of_ble_eq_true hb) ho' hd hr hQ
end
end Go.GG
namespace Go.GG
open Go.RowKit
section
variable {τ:yG} {P:Program} {E:xI} {tab:Tab} {Γ:Env} {Λ:zV}
theorem zC4 (hT:vI P tab) (hΓ:zCy P Γ) (hm:P.follows .mixedOrders=true):∀(c:Code) (n:Nat),zN tab Γ Λ n c→xA0 (τ:=τ) P tab Γ Λ c n
 | .region id ops draw,n,_,k,d,ro,E,hreg,hkp,hpl,R,K,r,s,a,w,Q,he,h,hout,hQ=>by
   simp only [zFm] at he
   exact xJk hT hΓ hm hreg hkp hpl hout he h fun s' a' w' hk hr=>hQ .normal s' a' w' hk hr
 | .seq x y,n,hp,k,d,ro,E,hreg,hkp,hpl,R,K,r,s,a,w,Q,he,h,hout,hQ=>by
   simp only [jI,Bool.and_eq_true] at hreg
   simp only [zN] at hp
   obtain ⟨hpart,hpx,hpy⟩:=hp
   simp only [zFm] at he
   have hkx:∀t∈zAs x,E.keep t=none:=fun t ht=>hkp t (by simp [zAs,ht])
   have hky:∀t∈zAs y,E.keep t=none:=fun t ht=>hkp t (by simp [zAs,ht])
   have hplx:ro=none∨zA6 x=true:=hpl.imp (fun h=>h) fun h=>by simp only [zA6,Bool.and_eq_true] at h;exact h.1
   have hply:ro=none∨zA6 y=true:=hpl.imp (fun h=>h) fun h=>by simp only [zA6,Bool.and_eq_true] at h;exact h.2
   have next:∀e s' a' w',xHg K (fun s=>zFm tab Γ Λ k (n+1+zJ0 x) y s K) e s'=some r→zD1 P E s' a' w'→Exit.then (y.wpIn (zN1 ro) d P Q) Q e.out a' w':=by
    intro e s' a' w' hk hr
    cases e with
    |normal=>exact zC4 hT hΓ hm y _ hpy k d ro E hreg.2 hky hply hk hr hout hQ
    |exit id=>exact hQ (.exit id) s' a' w' hk hr
    |ret=>exact hQ .ret s' a' w' hk hr
   refine wpIn_seq ?_
   split at he
   ·exact zC4 hT hΓ hm x _ hpx k d ro E hreg.1 hkx hplx he h (fun a w h=>hout a w h) next
   ·rename_i u hu
    rw [hu] at hpart
    simp only [xAy] at hpart
    unfold yHz at he
    split at he
    ·simp at he
    ·rename_i z hz
     rw [Option.bind_eq_some_iff] at he
     obtain ⟨o,ho,hd⟩:=he
     rw [hpart] at ho
     refine zC4 hT hΓ hm x _ hpx k d ro E hreg.1 hkx hplx ho (zJl hz h) (fun a w h=>hout a w h) fun e s' a' w' hk hr=> ?_
     obtain ⟨s'',hk',hr'⟩:=zUr hk hd hr
     exact next e s'' a' w' hk' hr'
 | .cond c x y,n,hp,k,d,ro,E,hreg,hkp,hpl,R,K,r,s,a,w,Q,he,h,hout,hQ=>by
   simp only [jI,Bool.and_eq_true] at hreg
   simp only [zN] at hp
   simp only [zFm] at he
   have hkx:∀t∈zAs x,E.keep t=none:=fun t ht=>hkp t (by simp [zAs,ht])
   have hky:∀t∈zAs y,E.keep t=none:=fun t ht=>hkp t (by simp [zAs,ht])
   have hplx:ro=none∨zA6 x=true:=hpl.imp (fun h=>h) fun h=>by simp only [zA6,Bool.and_eq_true] at h;exact h.1
   have hply:ro=none∨zA6 y=true:=hpl.imp (fun h=>h) fun h=>by simp only [zA6,Bool.and_eq_true] at h;exact h.2
   have ⟨m,h'⟩:=h
   have hv:=h'.eval c
   split at he
   ·rename_i b hb
    rw [hb] at hv
    refine wpIn_cond (zW7 hv) ?_
    cases b with
    |true=>exact zC4 hT hΓ hm x _ hp.1 k d ro E hreg.1 hkx hplx he h hout hQ
    |false=>exact zC4 hT hΓ hm y _ hp.2 k d ro E hreg.2 hky hply he h hout hQ
   ·simp at he
 | .block id c,n,hp,k,d,ro,E,hreg,hkp,hpl,R,K,r,s,a,w,Q,he,h,hout,hQ=>by
   simp only [jI] at hreg
   simp only [zN] at hp
   simp only [zFm] at he
   refine wpIn_block (zC4 hT hΓ hm c _ hp k d ro E hreg (fun t ht=>hkp t (by simpa [zAs] using ht)) (hpl.imp (fun h=>h) fun h=>by simpa only [zA6] using h) he h (fun a w h=>hout a w h) fun e s' a' w' hk hr=> ?_)
   cases e with
   |normal=>exact hQ .normal s' a' w' hk hr
   |ret=>exact hQ .ret s' a' w' hk hr
   |exit id'=>
    simp only [AE.out,Exit.inBlock]
    simp only at hk
    cases hb:Nat.beq id' id with
    |true=>
     rw [hb] at hk
     rw [if_pos (Nat.eq_of_beq_eq_true hb)]
     exact hQ .normal s' a' w' hk hr
    |false=>
     rw [hb] at hk
     rw [if_neg (fun e=>by subst e;simp at hb)]
     exact hQ (.exit id') s' a' w' hk hr
 | .loop c,n,hp,k,d,ro,E,hreg,hkp,hpl,R,K,r,s,a,w,Q,he,h,hout,hQ=>by
   simp only [jI] at hreg
   simp only [zN] at hp
   obtain ⟨hpart,hpc⟩:=hp
   simp only [zFm] at he
   split at he
   ·simp at he
   ·rename_i u hu
    rw [hu] at hpart
    simp only [xAy] at hpart
    obtain ⟨h0,hs⟩:=hpart
    unfold yHz at he
    split at he
    ·simp at he
    ·rename_i z hz
     rw [Option.bind_eq_some_iff] at he
     obtain ⟨o,ho,hd⟩:=he
     have rounds:∀k x a w,u.F k x=some o→zD1 P E (u.head.state x) a w→Code.roundsIn (zN1 ro) d P c Q k a w:=by
      intro k
      induction k with
      |zero=>intro x a w hx _;rw [h0] at hx;simp at hx
      |succ k ih=>
       intro x a w hx hr
       rw [hs] at hx
       rw [roundsIn_succ]
       refine zC4 hT hΓ hm c _ hpc k d ro E hreg (fun t ht=>hkp t (by simpa [zAs] using ht)) (hpl.imp (fun h=>h) fun h=>by simpa only [zA6] using h) hx hr (fun a w h=>hout a w h) fun e s' a' w' hk hr'=> ?_
       cases e with
       |normal=>
        simp only at hk
        split at hk
        ·simp at hk
        ·rename_i y hy
         exact ih y a' w' hk (zJl hy hr')
       |ret=>
        obtain ⟨s'',hk',hr''⟩:=zUr hk hd hr'
        exact hQ .ret s'' a' w' hk' hr''
       |exit id=>
        obtain ⟨s'',hk',hr''⟩:=zUr hk hd hr'
        exact hQ (.exit id) s'' a' w' hk' hr''
     exact wpIn_loop_rounds k (rounds k z a w ho (zJl hz h))
 | .exit id,n,_,k,d,ro,E,_,_,_,R,K,r,s,a,w,Q,he,h,_,hQ=>wpIn_exit (hQ (.exit id) s a w he h)
 | .ret,n,_,k,d,ro,E,_,_,_,R,K,r,s,a,w,Q,he,h,_,hQ=>wpIn_ret (hQ .ret s a w he h)
 | .skip,n,_,k,d,ro,E,_,_,_,R,K,r,s,a,w,Q,he,h,_,hQ=>wpIn_skip (hQ .normal s a w he h)
 | .label l,n,_,k,d,ro,E,_,_,_,R,K,r,s,a,w,Q,he,h,_,hQ=>wpIn_label (hQ .normal s a w he h)
 | .rangeFunc x ps assign body,n,hp,k,d,ro,E,hreg,hkp,hpl,R,K,r,s,a,w,Q,he,h,hout,hQ=>by
   obtain rfl:ro=none:=hpl.elim (fun h=>h) fun h=>by simp [zA6] at h
   simp only [zN] at hp
   obtain ⟨hpart,hpa,hpb⟩:=hp
   simp only [zFm] at he
   split at he
   ·simp at he
   ·rename_i u hu
    rw [hu] at hpart
    simp only at hpart
    unfold yHz at he
    split at he
    ·simp at he
    ·rename_i z hz
     rw [Option.bind_eq_some_iff] at he
     obtain ⟨o,ho,hd⟩:=he
     exact xK3 hΓ hpart (zC4 hT hΓ hm assign _ hpa) (zC4 hT hΓ hm body _ hpb) hreg ho hd (zJl hz h) hQ
 | .scope _,_,_,_,_,_,_,_,_,_,_,_,_,_,_,_,_,he,_,_,_=>by simp [zFm] at he
 | .goto _,_,_,_,_,_,_,_,_,_,_,_,_,_,_,_,_,he,_,_,_=>by simp [zFm] at he
 | .refuse _,_,_,_,_,_,_,_,_,_,_,_,_,_,_,_,_,he,_,_,_=>by simp [zFm] at he
end
end Go.GG
namespace Go.GG
open Go.RowKit
section
variable {τ:yG} {P:Program} {w:World}
def zV7:Value→Nat
 | .pointer (some a)=>a.block
 |_=>0
def xVc:Value→zF
 | .slice A _ c=> .blk A c
 |_=> .blk none 0
def xNx (w:World):Value→Nat
 | .pointer (some a)=>match w.heap[a.block]? with
   |some (.cells C _ _)=>match C.toList with
    | [.pointer (some a')]=>a'.block
    |_=>0
   |_=>0
 |_=>0
theorem xRb {w:World} {b0 b:Nat} (h:yVp w b0 b):xNx w (.pointer (some ⟨b0,0,none⟩))=b:=by
 obtain ⟨e,h⟩:=h
 simp [xNx,h]
def yV4 (w:World):Value→Nat
 | .pointer (some a)=>(xA3 w a.block).getD 0
 |_=>0
theorem xId {w:World} {b0 b:Nat} (h:zHw w b0 b):yV4 w (.pointer (some ⟨b0,0,none⟩))=b:=by simp [yV4,yXy h]
def xK (w:World) (j:Nat):List FK→Nat→List Value→List (Nat×zF)
 | .row _::fs,i,u::us=>(yCy j i, .arr u)::xK w j fs (i+1) us
 | .segs::fs,i,u::us=>(yCy j i, .deep u (zIz w u))::xK w j fs (i+1) us
 | .dsk::fs,i,u::us=>(2*zD+j, .var (zV7 u))::(zD+j, .obj (yV4 w u) (jN w (yV4 w u)))::xK w j fs (i+1) us
 | .imm _::fs,i,_::us=>xK w j fs (i+1) us
 | .als::fs,i,_::us=>xK w j fs (i+1) us
 |_,_,_=> []
structure xT5 (P:Program) (w:World) (ok0:Nat→Prop) (j:Nat) (fs:List FK) (i:Nat) (x:RD FK.den fs) (us:List Value):Prop where
 ls:∀(m:zO) ok,(∀p∈xK w j fs i us,m p.1=some p.2)→(∀b,ok0 b→ok b)→zR P w ok m (yO0 j fs i x) us
 mem:∀r c,(r,c)∈zJn j fs i x→∃im,(r,im)∈xK w j fs i us∧∀(m:zO) ok,(∀p∈xK w j fs i us,m p.1=some p.2)→(∀b,ok0 b→ok b)→(bk im).Nodup→yM P w ok m c im
 keys:(xK w j fs i us).map (·.1)=(zJn j fs i x).map (·.1)
 range:∀p∈xK w j fs i us,((p.1=zD+j∨p.1=2*zD+j)∧(∃b,p.2= .var b∨∃bs,p.2= .obj b bs)∧0<fs.countP FK.isDsk)∨∃k,i<k∧k≤i+fs.length∧p.1+1000*k+j+1=zD
 nodup:((xK w j fs i us).map (·.1)).Nodup
 blocks:(xK w j fs i us).flatMap (fun p=>bk p.2)=yB6 w fs us
 shape:∀p∈xK w j fs i us,(bk p.2).Nodup→p.2.shape
 lents:∀m:zO,(∀p∈xK w j fs i us,m p.1=some p.2)→rts m (zXz j fs)=zQu w fs us
theorem xIr {j i:Nat} (hj:j<1000) (hi:i<900):yCy j i+1000*(i+1)+j+1=zD:=by
 have:zD=1000000:=rfl
 simp only [yCy];omega
theorem yNn {ok0:Nat→Prop} {j:Nat} (hj:j<1000):∀ {fs:List FK} {i:Nat} {x:RD FK.den fs} {us:List Value},zAc w ok0 fs x us (zQu w fs us)→i+fs.length≤900→fs.countP FK.isDsk≤1→fs.any FK.isAls=false→xT5 P w ok0 j fs i x us
 | [],i,x,us,h,_,_,_=>by
   simp only [zAc] at h;subst h
   exact ⟨fun _ _ _ _=>rfl,by simp [zJn],rfl,by simp [xK],by simp [xK],rfl,by simp [xK],fun _ _=>rfl⟩
 | .imm t::fs,i,x,us,h,hi,hd,ha=>by
   obtain ⟨u,us,rfl,h1,h2⟩:=h
   have A:=yNn hj (i:=i+1) h2 (by simp at hi ⊢;omega) (by simpa [FK.isDsk] using hd) (by simpa [FK.isAls] using ha)
   refine ⟨fun m ok hm hok=>⟨u,us,rfl,T.holds_mono (t:=t) (zS.weaken hok) h1,A.ls m ok hm hok⟩,A.mem,A.keys,fun p hp=> ?_,A.nodup,A.blocks,A.shape,A.lents⟩
   rcases A.range p hp with ⟨a1,a2,a3⟩|⟨k,a1,a2,a3⟩
   ·exact .inl ⟨a1,a2,by simpa [FK.isDsk] using a3⟩
   ·exact .inr ⟨k,by omega,by simp only [List.length_cons];omega,a3⟩
 | .row t::fs,i,x,us,h,hi,hd,ha=>by
   obtain ⟨u,us,rfl,h1,h2⟩:=h
   simp only [List.length_cons] at hi
   have A:=yNn hj (i:=i+1) h2 (by omega) (by simpa [FK.isDsk] using hd) (by simpa [FK.isAls] using ha)
   have hid:=xIr hj (show i<900 by omega)
   have hs:(zF.arr u).shape:=yM.shape (P:=P) (w:=w) (ok:=ok0) (m:=fun _=>none) (c:= .arr t _) h1
   refine ⟨fun m ok hm hok=>⟨u,us,rfl, .inl (hm (yCy j i, .arr u) (by simp [xK])),A.ls m ok (fun p hp=>hm p (by simp [xK,hp])) hok⟩,fun r c hc=> ?_,by simp [xK,zJn,A.keys],fun p hp=> ?_, ?_, ?_,fun p hp=> ?_,fun m hm=>A.lents m fun p hp=>hm p (by simp [xK,hp])⟩
   ·simp only [zJn,List.mem_cons,Prod.mk.injEq] at hc
    rcases hc with ⟨rfl,rfl⟩|hc
    ·exact ⟨.arr u,by simp [xK],fun m ok _ hok _=>yN.mono (zS.weaken hok) (fun _ _=>rfl) h1⟩
    ·obtain ⟨im,g1,g2⟩:=A.mem r c hc
     exact ⟨im,by simp [xK,g1],fun m ok hm hok=>g2 m ok (fun p hp=>hm p (by simp [xK,hp])) hok⟩
   ·simp only [xK,List.mem_cons] at hp
    rcases hp with rfl|hp
    ·exact .inr ⟨i+1,by omega,by simp only [List.length_cons];omega,hid⟩
    ·rcases A.range p hp with ⟨a1,a2,a3⟩|⟨k,a1,a2,a3⟩
     ·exact .inl ⟨a1,a2,by simpa [FK.isDsk] using a3⟩
     ·exact .inr ⟨k,by omega,by simp only [List.length_cons];omega,a3⟩
   ·simp only [xK,List.map_cons,List.nodup_cons]
    refine ⟨fun hh=> ?_,A.nodup⟩
    obtain ⟨q,hq,e⟩:=List.mem_map.1 hh
    rcases A.range q hq with ⟨a1,_⟩|⟨k,a1,a2,a3⟩<;>omega
   ·simp only [xK,List.flatMap_cons,A.blocks,yB6]
    rw [zC2 hs];rfl
   ·simp only [xK,List.mem_cons] at hp
    rcases hp with rfl|hp
    ·exact fun _=>hs
    ·exact A.shape p hp
 | .segs::fs,i,x,us,h,hi,hd,ha=>by
   obtain ⟨u,us,rfl,h1,h2⟩:=h
   simp only [List.length_cons] at hi
   have A:=yNn hj (i:=i+1) h2 (by omega) (by simpa [FK.isDsk] using hd) (by simpa [FK.isAls] using ha)
   have hid:=xIr hj (show i<900 by omega)
   refine ⟨fun m ok hm hok=>⟨u,us,rfl,⟨_,hm (yCy j i, .deep u (zIz w u)) (by simp [xK])⟩,A.ls m ok (fun p hp=>hm p (by simp [xK,hp])) hok⟩,fun r c hc=> ?_,by simp [xK,zJn,A.keys],fun p hp=> ?_, ?_, ?_,fun p hp=> ?_,fun m hm=>A.lents m fun p hp=>hm p (by simp [xK,hp])⟩
   ·simp only [zJn,List.mem_cons,Prod.mk.injEq] at hc
    rcases hc with ⟨rfl,rfl⟩|hc
    ·exact ⟨.deep u (zIz w u),by simp [xK],fun m ok _ hok hn=>⟨hn,(jH.free h1).mono (zS.weaken hok) (Ext.refl _) (fun _ _=>rfl)⟩⟩
    ·obtain ⟨im,g1,g2⟩:=A.mem r c hc
     exact ⟨im,by simp [xK,g1],fun m ok hm hok=>g2 m ok (fun p hp=>hm p (by simp [xK,hp])) hok⟩
   ·simp only [xK,List.mem_cons] at hp
    rcases hp with rfl|hp
    ·exact .inr ⟨i+1,by omega,by simp only [List.length_cons];omega,hid⟩
    ·rcases A.range p hp with ⟨a1,a2,a3⟩|⟨k,a1,a2,a3⟩
     ·exact .inl ⟨a1,a2,by simpa [FK.isDsk] using a3⟩
     ·exact .inr ⟨k,by omega,by simp only [List.length_cons];omega,a3⟩
   ·simp only [xK,List.map_cons,List.nodup_cons]
    refine ⟨fun hh=> ?_,A.nodup⟩
    obtain ⟨q,hq,e⟩:=List.mem_map.1 hh
    rcases A.range q hq with ⟨a1,_⟩|⟨k,a1,a2,a3⟩<;>omega
   ·simp only [xK,List.flatMap_cons,A.blocks,yB6]
    rfl
   ·simp only [xK,List.mem_cons] at hp
    rcases hp with rfl|hp
    ·exact fun hn=>yPv h1 hn
    ·exact A.shape p hp
 | .dsk::fs,i,x,us,h,hi,hd,ha=>by
   obtain ⟨b0,b,bs',us',hbs,rfl,hp,⟨es,clock,hh,hpm⟩,h2⟩:=h
   simp only [List.length_cons] at hi
   have hd0:fs.countP FK.isDsk=0:=by
    simp only [List.countP_cons,FK.isDsk,if_true] at hd;omega
   simp only [zQu,zOi hp,List.cons_append,List.nil_append,List.cons.injEq,true_and] at hbs
   rw [←hbs] at h2
   have A:=yNn hj (i:=i+1) h2 (by omega) (by omega) (by simpa [FK.isAls] using ha)
   have hpa:=xId hp
   have hfi:xK w j (.dsk::fs) i (.pointer (some ⟨b0,0,none⟩)::us')=(2*zD+j, .var b0)::(zD+j, .obj b (jN w b))::xK w j fs (i+1) us':=by
    simp only [xK,hpa];rfl
   have hlb:zD=1000000:=rfl
   have notin:∀p∈xK w j fs (i+1) us',p.1≠zD+j∧p.1≠2*zD+j:=fun p hp=>by
    rcases A.range p hp with ⟨_,_,a3⟩|⟨k,a1,a2,a3⟩
    ·omega
    ·omega
   refine ⟨fun m ok hm hok=> ?_,fun r c hc=> ?_,by rw [hfi];simp [zJn,A.keys],fun p hp=> ?_, ?_, ?_,fun p hp=> ?_,fun m hm=> ?_⟩
   ·rw [hfi] at hm
    exact ⟨_,us',rfl,⟨b0,hm (2*zD+j, .var b0) (by simp),rfl⟩,A.ls m ok (fun p hp=>hm p (by simp [hp])) hok⟩
   ·rw [hfi]
    simp only [zJn,List.mem_cons,Prod.mk.injEq] at hc
    rcases hc with ⟨rfl,rfl⟩|⟨rfl,rfl⟩|hc
    ·exact ⟨.var b0,by simp,fun m ok hm hok hnd=>zMv hp (.inr ⟨_,hm (zD+j, .obj b (jN w b)) (by simp)⟩)⟩
    ·exact ⟨.obj b (jN w b),by simp,fun m ok _ hok hnd=>⟨hnd,es,clock,hh,hpm.free⟩⟩
    ·obtain ⟨im,g1,g2⟩:=A.mem r c hc
     exact ⟨im,by simp [g1],fun m ok hm hok=>g2 m ok (fun p hp=>hm p (by simp [hp])) hok⟩
   ·rw [hfi] at hp
    simp only [List.mem_cons] at hp
    have hcp:0<(FK.dsk::fs).countP FK.isDsk:=by simp [FK.isDsk]
    rcases hp with rfl|rfl|hp
    ·exact .inl ⟨.inr rfl,⟨_, .inl rfl⟩,hcp⟩
    ·exact .inl ⟨.inl rfl,⟨_, .inr ⟨_,rfl⟩⟩,hcp⟩
    ·rcases A.range p hp with ⟨a1,a2,a3⟩|⟨k,a1,a2,a3⟩
     ·exact .inl ⟨a1,a2,hcp⟩
     ·exact .inr ⟨k,by omega,by simp only [List.length_cons];omega,a3⟩
   ·rw [hfi]
    simp only [List.map_cons,List.nodup_cons,List.mem_cons]
    refine ⟨?_,fun hh=> ?_,A.nodup⟩
    ·rintro (hh|hh)
     ·omega
     ·obtain ⟨q,hq,e⟩:=List.mem_map.1 hh
      exact (notin q hq).2 e
    ·obtain ⟨q,hq,e⟩:=List.mem_map.1 hh
     exact (notin q hq).1 e
   ·rw [hfi]
    simp only [List.flatMap_cons,A.blocks,yB6,zS6 hp]
    rfl
   ·rw [hfi] at hp
    simp only [List.mem_cons] at hp
    rcases hp with rfl|rfl|hp
    ·exact fun _=>trivial
    ·exact fun h=>h
    ·exact A.shape p hp
   ·rw [hfi] at hm
    have h5:=hm (2*zD+j, .var b0) (by simp)
    have h6:=hm (zD+j, .obj b (jN w b)) (by simp)
    simp only [zXz,rts,List.flatMap_cons,zQu,zOi hp]
    rw [xM h5,xM h6]
    have:=A.lents m (fun p hp=>hm p (by simp [hp]))
    simp only [rts] at this
    rw [this]
    rfl
 | .als::_,_,_,_,_,_,_,ha=>by simp [FK.isAls] at ha
def zY (w:World):List PK→Nat→List Value→List (Nat×zF)
 | .lent _::ps,j,v::vs=>(zD+j, .var (zV7 v))::zY w ps (j+1) vs
 | .lentp _::ps,j,v::vs=>(2*zD+j, .var (zV7 v))::(zD+j, .var (xNx w v))::zY w ps (j+1) vs
 | .disk::ps,j,v::vs=>(2*zD+j, .var (zV7 v))::(zD+j, .obj (yV4 w v) (jN w (yV4 w v)))::zY w ps (j+1) vs
 | .lento fs::ps,j,v::vs=>(3*zD+j, .var (zV7 v))::(xK w j fs 0 (yCi w (zV7 v))++zY w ps (j+1) vs)
 | .own _::ps,j,v::vs=>(zD-1-j, .arr v)::zY w ps (j+1) vs
 | .blk _::ps,j,v::vs=>(zD-1-j,xVc v)::zY w ps (j+1) vs
 |_::ps,j,_::vs=>zY w ps (j+1) vs
 |_,_,_=> []
structure xPs (P:Program) (w:World) (ok0:Nat→Prop) (ps:List PK) (j:Nat) (x:RD PK.den ps) (vals:List Value):Prop where
 len:vals.length=ps.length
 ls:∀(m:zO) ok,(∀p∈zY w ps j vals,m p.1=some p.2)→(∀b,ok0 b→ok b)→zR P w ok m (vX ps j x) vals
 mem:∀r c,zSa (yY ps j x) r=some c→∃i,(r,i)∈zY w ps j vals∧∀(m:zO) ok,(∀p∈zY w ps j vals,m p.1=some p.2)→(∀b,ok0 b→ok b)→(bk i).Nodup→yM P w ok m c i
 keys:(zY w ps j vals).map (·.1)=(yY ps j x).map (·.1)
 range:∀p∈zY w ps j vals,∃i,j≤i∧i<1000∧(((p.1=zD+i∨p.1=2*zD+i∨p.1=3*zD+i)∧∃b,p.2= .var b∨∃bs,p.2= .obj b bs)∨∃k,k≤900∧p.1+1000*k+i+1=zD)
 nodup:((zY w ps j vals).map (·.1)).Nodup
 blocks:(zY w ps j vals).flatMap (fun p=>bk p.2)=xJ w ps vals
 shape:∀p∈zY w ps j vals,(bk p.2).Nodup→p.2.shape
 lents:∀m:zO,(∀p∈zY w ps j vals,m p.1=some p.2)→rts m (wU ps j)=xP w ps vals
theorem xBx {r r':Nat} {c c':C} {l:List (Nat×C)} (h:zSa ((r',c')::l) r=some c):(r=r'∧c=c')∨zSa l r=some c:=by
 simp only [zSa] at h
 cases hb:Nat.beq r r' with
 |true=>rw [hb] at h;simp at h;exact .inl ⟨Nat.eq_of_beq_eq_true hb,h.symm⟩
 |false=>rw [hb] at h;exact .inr h
theorem yUx {r:Nat} {c:C} {l':List (Nat×C)}:∀ {l:List (Nat×C)},zSa (l++l') r=some c→(r,c)∈l∨zSa l' r=some c
 | [],h=> .inr h
 |(r',c')::l,h=>by
  rcases xBx h with ⟨rfl,rfl⟩|h
  ·exact .inl (by simp)
  ·exact (yUx h).imp (fun h=>by simp [h]) (fun h=>h)
theorem xBt {ok0:Nat→Prop}:∀ {ps:List PK} {j:Nat} {x:RD PK.den ps} {vals:List Value},zTy P w ok0 ps x vals→j+ps.length≤1000→xPs P w ok0 ps j x vals
 | [],j,x,vals,h,_=>by
   simp only [zTy] at h;subst h
   exact ⟨rfl,fun _ _ _ _=>rfl,fun r c hc=>by simp [yY,zSa] at hc,rfl,by simp [zY],by simp [zY],rfl,by simp [zY],fun _ _=>rfl⟩
 |p::ps,j,x,_,h,hj=>by
  obtain ⟨v,vals,rfl,h1,h2⟩:=h
  have A:=xBt (j:=j+1) h2 (by simp at hj ⊢;omega)
  have hj':j+1+ps.length≤1000:=by simp at hj;omega
  have hlb:zD=1000000:=rfl
  have range':∀q∈zY w ps (j+1) vals,∃i,j≤i∧i<1000∧(((q.1=zD+i∨q.1=2*zD+i∨q.1=3*zD+i)∧∃b,q.2= .var b∨∃bs,q.2= .obj b bs)∨∃k,k≤900∧q.1+1000*k+i+1=zD):=fun q hq=>by
   obtain ⟨i,h1,h2⟩:=A.range q hq
   exact ⟨i,by omega,h2⟩
  have later:∀q∈zY w ps (j+1) vals,q.1≠zD+j∧q.1≠2*zD+j∧q.1≠3*zD+j∧∀k,k≤900→q.1+1000*k+j+1≠zD:=fun q hq=>by
   obtain ⟨i,h1,h2,h3⟩:=A.range q hq
   rcases h3 with ⟨h3|h3|h3,_⟩|⟨k',h3,h4⟩
   ·refine ⟨?_, ?_, ?_,fun k hk=> ?_⟩<;>omega
   ·refine ⟨?_, ?_, ?_,fun k hk=> ?_⟩<;>omega
   ·refine ⟨?_, ?_, ?_,fun k hk=> ?_⟩<;>omega
   ·refine ⟨?_, ?_, ?_,fun k hk=> ?_⟩<;>omega
  have plain:zY w (p::ps) j (v::vals)=zY w ps (j+1) vals→yY (p::ps) j x=yY ps (j+1) (RD.tl (k:=p) x)→wU (p::ps) j=wU ps (j+1)→
   yU9 w p v= []→yZf w p v= []→(∃l,vX (p::ps) j x=l::vX ps (j+1) (RD.tl (k:=p) x)∧∀(m:zO) ok,(∀b,ok0 b→ok b)→zL P w ok m l v)→xPs P w ok0 (p::ps) j x (v::vals):=by
   intro e1 e2 e3 e4 e5 ⟨l,e6,e7⟩
   refine ⟨by simp [A.len],fun m ok hm hok=> ?_, ?_, ?_, ?_, ?_, ?_, ?_, ?_⟩
   ·rw [e6];rw [e1] at hm;exact ⟨v,vals,rfl,e7 m ok hok,A.ls m ok hm hok⟩
   ·rw [e1,e2];exact A.mem
   ·rw [e1,e2];exact A.keys
   ·rw [e1];exact range'
   ·rw [e1];exact A.nodup
   ·rw [e1,A.blocks,yU8,e4];rfl
   ·rw [e1];exact A.shape
   ·rw [e1,e3,yTw,e5];exact A.lents
  cases p
  case imm t=>exact plain rfl rfl rfl rfl rfl ⟨_,rfl,fun m ok hok=>T.holds_mono (t:=t) (zS.weaken hok) h1⟩
  case agg t=>
   obtain ⟨cs,rfl,h3⟩:=h1
   exact plain rfl rfl rfl rfl rfl ⟨_,rfl,fun m ok hok=>⟨cs,rfl,jK (T.holds_mono (zS.weaken hok) h3)⟩⟩
  case ro t=>
   obtain ⟨b,o,C,e,fr,cs,rfl,h3,h4,h5,h6⟩:=h1
   exact plain rfl rfl rfl rfl rfl ⟨_,rfl,fun m ok hok=>⟨b,o,C,e,fr,cs,rfl,hok b h3,h4,T.holds_mono (zS.weaken hok) h5,h6⟩⟩
  case fn as b=>exact plain rfl rfl rfl rfl rfl ⟨_,rfl,fun m ok hok=>zD3.mono (zS.weaken hok) h1⟩
  case rof as b=>
   obtain ⟨bl,o,C,e,fr,u,rfl,h3,h4,h5,h6⟩:=h1
   exact plain rfl rfl rfl rfl rfl ⟨_,rfl,fun m ok hok=>⟨bl,o,C,e,fr,u,rfl,hok bl h3,h4,h5,zD3.mono (zS.weaken hok) h6⟩⟩
  case nilp=>exact plain rfl rfl rfl rfl rfl ⟨_,rfl,fun m ok hok=>h1⟩
  case nils=>exact plain rfl rfl rfl rfl rfl ⟨_,rfl,fun m ok hok=>h1⟩
  case nnil t=>exact plain rfl rfl rfl rfl rfl ⟨_,rfl,fun m ok hok=>⟨T.holds_mono (t:= .slice t) (zS.weaken hok) h1.1,h1.2⟩⟩
  case lent t=>
   obtain ⟨b,rfl,us,e,h3,h4⟩:=h1
   have notin:∀p∈zY w ps (j+1) vals,p.1≠zD+j:=fun p hp=>(later p hp).1
   refine ⟨by simp [A.len],fun m ok hm hok=>⟨_,vals,rfl,⟨b,hm (zD+j, .var b) (by simp [zY,zV7]),rfl⟩,A.ls m ok (fun p hp=>hm p (by simp [zY,hp])) hok⟩,fun r c hc=> ?_, ?_, ?_, ?_, ?_, ?_, ?_⟩
   ·simp only [yY,zSa] at hc
    cases hb:Nat.beq r (zD+j) with
    |true=>
     rw [hb] at hc
     simp at hc;subst hc
     exact ⟨.var b,by rw [Nat.eq_of_beq_eq_true hb];simp [zY,zV7],fun m ok _ hok _=>⟨us,e,h3,jK (T.holds_mono (zS.weaken hok) h4)⟩⟩
    |false=>
     rw [hb] at hc
     obtain ⟨i,hi,hr⟩:=A.mem r c hc
     exact ⟨i,by simp [zY,hi],fun m ok hm hok=>hr m ok (fun p hp=>hm p (by simp [zY,hp])) hok⟩
   ·simp [zY,yY,A.keys]
   ·intro q hq
    simp only [zY,List.mem_cons] at hq
    rcases hq with rfl|hq
    ·exact ⟨j,Nat.le_refl _,by omega, .inl ⟨.inl rfl,_, .inl rfl⟩⟩
    ·exact range' q hq
   ·simp only [zY,List.map_cons,List.nodup_cons]
    refine ⟨fun hh=> ?_,A.nodup⟩
    obtain ⟨q,hq,e⟩:=List.mem_map.1 hh
    exact notin q hq e
   ·simp only [zY,List.flatMap_cons,A.blocks,xJ]
    rfl
   ·intro q hq
    simp only [zY,List.mem_cons] at hq
    rcases hq with rfl|hq
    ·exact fun _=>trivial
    ·exact A.shape q hq
   ·intro m hm
    have:=hm (zD+j, .var b) (by simp [zY,zV7])
    simp only [wU,rts,List.flatMap_cons,xP,zJv]
    rw [xM this]
    have:=A.lents m (fun p hp=>hm p (by simp [zY,hp]))
    simp only [rts] at this
    rw [this]
    rfl
  case lentp t=>
   obtain ⟨b0,b,rfl,hp,us,e,h3,h4⟩:=h1
   have hpa:=xRb hp
   have htw:=yI2 hp
   have hpi:zY w (.lentp t::ps) j (.pointer (some ⟨b0,0,none⟩)::vals)=(2*zD+j, .var b0)::(zD+j, .var b)::zY w ps (j+1) vals:=by
    simp only [zY,hpa];rfl
   have notin:∀p∈zY w ps (j+1) vals,p.1≠zD+j∧p.1≠2*zD+j:=fun p hp=>⟨(later p hp).1,(later p hp).2.1⟩
   obtain ⟨e0,hp0⟩:=hp
   refine ⟨by simp [A.len],fun m ok hm hok=>⟨_,vals,rfl,⟨b0,hm (2*zD+j, .var b0) (by rw [hpi];simp),rfl⟩,A.ls m ok (fun p hp=>hm p (by rw [hpi];simp [hp])) hok⟩,fun r c hc=> ?_, ?_, ?_, ?_, ?_, ?_, ?_⟩
   ·rw [hpi]
    simp only [yY,zSa] at hc
    cases hb:Nat.beq r (2*zD+j) with
    |true=>
     rw [hb] at hc
     simp at hc;subst hc
     refine ⟨.var b0,by rw [Nat.eq_of_beq_eq_true hb];simp,fun m ok hm hok _=>⟨[.pointer (some ⟨b,0,none⟩)],e0,by simpa using hp0,_, [],rfl,⟨b,hm (zD+j, .var b) (by simp),rfl⟩,rfl⟩⟩
    |false=>
     rw [hb] at hc
     simp only [cond_false] at hc
     cases hb':Nat.beq r (zD+j) with
     |true=>
      rw [hb'] at hc
      simp at hc;subst hc
      exact ⟨.var b,by rw [Nat.eq_of_beq_eq_true hb'];simp,fun m ok hm hok _=>⟨us,e,h3,jK (T.holds_mono (zS.weaken hok) h4)⟩⟩
     |false=>
      rw [hb'] at hc
      obtain ⟨i,hi,hr⟩:=A.mem r c hc
      exact ⟨i,by simp [hi],fun m ok hm hok=>hr m ok (fun p hp=>hm p (by simp [hp])) hok⟩
   ·rw [hpi];simp [yY,A.keys]
   ·rw [hpi]
    intro q hq
    simp only [List.mem_cons] at hq
    rcases hq with rfl|rfl|hq
    ·exact ⟨j,Nat.le_refl _,by omega, .inl ⟨.inr (.inl rfl),_, .inl rfl⟩⟩
    ·exact ⟨j,Nat.le_refl _,by omega, .inl ⟨.inl rfl,_, .inl rfl⟩⟩
    ·exact range' q hq
   ·rw [hpi]
    simp only [List.map_cons,List.nodup_cons,List.mem_cons]
    refine ⟨?_,fun hh=> ?_,A.nodup⟩
    ·rintro (hh|hh)
     ·omega
     ·obtain ⟨q,hq,e⟩:=List.mem_map.1 hh
      exact (notin q hq).2 e
    ·obtain ⟨q,hq,e⟩:=List.mem_map.1 hh
     exact (notin q hq).1 e
   ·rw [hpi]
    simp only [List.flatMap_cons,A.blocks,xJ,htw]
    rfl
   ·rw [hpi]
    intro q hq
    simp only [List.mem_cons] at hq
    rcases hq with rfl|rfl|hq
    ·exact fun _=>trivial
    ·exact fun _=>trivial
    ·exact A.shape q hq
   ·intro m hm
    rw [hpi] at hm
    have h5:=hm (2*zD+j, .var b0) (by simp)
    have h6:=hm (zD+j, .var b) (by simp)
    simp only [wU,rts,List.flatMap_cons,xP,htw]
    rw [xM h5,xM h6]
    have:=A.lents m (fun p hp=>hm p (by simp [hp]))
    simp only [rts] at this
    rw [this]
    rfl
  case disk=>
   obtain ⟨b0,b,rfl,hp,es,clock,hh,hpm⟩:=h1
   have hpa:=xId hp
   have htw:=zS6 hp
   have htr:=zOi hp
   have hpi:zY w (.disk::ps) j (.pointer (some ⟨b0,0,none⟩)::vals)=(2*zD+j, .var b0)::(zD+j, .obj b (jN w b))::zY w ps (j+1) vals:=by
    simp only [zY,hpa];rfl
   have notin:∀p∈zY w ps (j+1) vals,p.1≠zD+j∧p.1≠2*zD+j:=fun p hp=>⟨(later p hp).1,(later p hp).2.1⟩
   refine ⟨by simp [A.len],fun m ok hm hok=>⟨_,vals,rfl,⟨b0,hm (2*zD+j, .var b0) (by rw [hpi];simp),rfl⟩,A.ls m ok (fun p hp=>hm p (by rw [hpi];simp [hp])) hok⟩,fun r c hc=> ?_, ?_, ?_, ?_, ?_, ?_, ?_⟩
   ·rw [hpi]
    simp only [yY,zSa] at hc
    cases hb:Nat.beq r (2*zD+j) with
    |true=>
     rw [hb] at hc
     simp at hc;subst hc
     exact ⟨.var b0,by rw [Nat.eq_of_beq_eq_true hb];simp,fun m ok hm hok hnd=>zMv hp (.inr ⟨_,hm (zD+j, .obj b (jN w b)) (by simp)⟩)⟩
    |false=>
     rw [hb] at hc
     simp only [cond_false] at hc
     cases hb':Nat.beq r (zD+j) with
     |true=>
      rw [hb'] at hc
      simp at hc;subst hc
      exact ⟨.obj b (jN w b),by rw [Nat.eq_of_beq_eq_true hb'];simp,fun m ok _ hok hnd=>⟨hnd,es,clock,hh,hpm.free⟩⟩
     |false=>
      rw [hb'] at hc
      obtain ⟨i,hi,hr⟩:=A.mem r c hc
      exact ⟨i,by simp [hi],fun m ok hm hok=>hr m ok (fun p hp=>hm p (by simp [hp])) hok⟩
   ·rw [hpi];simp [yY,A.keys]
   ·rw [hpi]
    intro q hq
    simp only [List.mem_cons] at hq
    rcases hq with rfl|rfl|hq
    ·exact ⟨j,Nat.le_refl _,by omega, .inl ⟨.inr (.inl rfl),_, .inl rfl⟩⟩
    ·exact ⟨j,Nat.le_refl _,by omega, .inl ⟨.inl rfl,_, .inr ⟨_,rfl⟩⟩⟩
    ·exact range' q hq
   ·rw [hpi]
    simp only [List.map_cons,List.nodup_cons,List.mem_cons]
    refine ⟨?_,fun hh=> ?_,A.nodup⟩
    ·rintro (hh|hh)
     ·omega
     ·obtain ⟨q,hq,e⟩:=List.mem_map.1 hh
      exact (notin q hq).2 e
    ·obtain ⟨q,hq,e⟩:=List.mem_map.1 hh
     exact (notin q hq).1 e
   ·rw [hpi]
    simp only [List.flatMap_cons,A.blocks,xJ,htw]
    rfl
   ·rw [hpi]
    intro q hq
    simp only [List.mem_cons] at hq
    rcases hq with rfl|rfl|hq
    ·exact fun _=>trivial
    ·exact fun h=>h
    ·exact A.shape q hq
   ·intro m hm
    rw [hpi] at hm
    have h5:=hm (2*zD+j, .var b0) (by simp)
    have h6:=hm (zD+j, .obj b (jN w b)) (by simp)
    simp only [wU,rts,List.flatMap_cons,xP,htr]
    rw [xM h5,xM h6]
    have:=A.lents m (fun p hp=>hm p (by simp [hp]))
    simp only [rts] at this
    rw [this]
    rfl
  case zd=>
   obtain ⟨b,C,e,fr,rfl,h3,h4,h5⟩:=h1
   exact plain rfl rfl rfl rfl rfl ⟨_,rfl,fun m ok hok=>⟨b,C,e,fr,rfl,hok b h3,h4,h5⟩⟩
  case own t=>
   have hs:(zF.arr v).shape:=yM.shape (P:=P) (w:=w) (ok:=ok0) (m:=fun _=>none) (c:= .arr t _) h1
   have notin:∀p∈zY w ps (j+1) vals,p.1≠zD-1-j:=fun p hp e=>by
    have:=(later p hp).2.2.2 0 (by omega)
    omega
   refine ⟨by simp [A.len],fun m ok hm hok=>⟨v,vals,rfl, .inl (hm (zD-1-j, .arr v) (by simp [zY])),A.ls m ok (fun p hp=>hm p (by simp [zY,hp])) hok⟩,fun r c hc=> ?_, ?_, ?_, ?_, ?_, ?_, ?_⟩
   ·simp only [yY,zSa] at hc
    cases hb:Nat.beq r (zD-1-j) with
    |true=>
     rw [hb] at hc
     simp at hc;subst hc
     exact ⟨.arr v,by rw [Nat.eq_of_beq_eq_true hb];simp [zY],fun m ok _ hok _=>yN.mono (zS.weaken hok) (fun _ _=>rfl) h1⟩
    |false=>
     rw [hb] at hc
     obtain ⟨i,hi,hr⟩:=A.mem r c hc
     exact ⟨i,by simp [zY,hi],fun m ok hm hok=>hr m ok (fun p hp=>hm p (by simp [zY,hp])) hok⟩
   ·simp [zY,yY,A.keys]
   ·intro q hq
    simp only [zY,List.mem_cons] at hq
    rcases hq with rfl|hq
    ·exact ⟨j,Nat.le_refl _,by omega, .inr ⟨0,by omega,by simp only;omega⟩⟩
    ·exact range' q hq
   ·simp only [zY,List.map_cons,List.nodup_cons]
    refine ⟨fun hh=> ?_,A.nodup⟩
    obtain ⟨q,hq,e⟩:=List.mem_map.1 hh
    exact notin q hq e
   ·simp only [zY,List.flatMap_cons,A.blocks,xJ]
    rw [zC2 hs];rfl
   ·intro q hq
    simp only [zY,List.mem_cons] at hq
    rcases hq with rfl|hq
    ·exact fun _=>hs
    ·exact A.shape q hq
   ·intro m hm
    have:=A.lents m (fun p hp=>hm p (by simp [zY,hp]))
    exact this
  case blk t=>
   obtain ⟨A0,rfl,h1⟩:=h1
   have ek:∀k:Nat,A0.map (·.add (0*k))=A0:=fun k=>by
    rw [Nat.zero_mul]
    cases A0<;>rfl
   have notin:∀p∈zY w ps (j+1) vals,p.1≠zD-1-j:=fun p hp e=>by
    have:=(later p hp).2.2.2 0 (by omega)
    omega
   refine ⟨by simp [A.len],fun m ok hm hok=>⟨_,vals,rfl,⟨A0,(RD.hd (k:=PK.blk t) x).2,0*t.cnt, .inl (hm (zD-1-j, .blk A0 (RD.hd (k:=PK.blk t) x).2) (List.mem_cons_self ..)),by rw [ek];rfl, .inr rfl⟩,A.ls m ok (fun p hp=>hm p (by simp [zY,hp])) hok⟩,fun r c hc=> ?_, ?_, ?_, ?_, ?_, ?_, ?_⟩
   ·simp only [yY,zSa] at hc
    cases hb:Nat.beq r (zD-1-j) with
    |true=>
     rw [hb] at hc
     simp at hc;subst hc
     exact ⟨.blk A0 (RD.hd (k:=PK.blk t) x).2,by rw [Nat.eq_of_beq_eq_true hb];exact List.mem_cons_self ..,fun m ok _ hok _=>⟨rfl,yN.mono (zS.weaken hok) (fun _ _=>rfl) h1⟩⟩
    |false=>
     rw [hb] at hc
     obtain ⟨i,hi,hr⟩:=A.mem r c hc
     exact ⟨i,by simp [zY,hi],fun m ok hm hok=>hr m ok (fun p hp=>hm p (by simp [zY,hp])) hok⟩
   ·simp [zY,yY,A.keys]
   ·intro q hq
    simp only [zY,List.mem_cons] at hq
    rcases hq with rfl|hq
    ·exact ⟨j,Nat.le_refl _,by omega, .inr ⟨0,by omega,by simp only;omega⟩⟩
    ·exact range' q hq
   ·simp only [zY,List.map_cons,List.nodup_cons]
    refine ⟨fun hh=> ?_,A.nodup⟩
    obtain ⟨q,hq,e⟩:=List.mem_map.1 hh
    exact notin q hq e
   ·simp only [zY,List.flatMap_cons,A.blocks,xJ]
    cases A0<;>rfl
   ·intro q hq
    simp only [zY,List.mem_cons] at hq
    rcases hq with rfl|hq
    ·exact fun _=>trivial
    ·exact A.shape q hq
   ·intro m hm
    have:=A.lents m (fun p hp=>hm p (by simp [zY,hp]))
    exact this
  case wend=>exact h1.elim
  case iter t=>exact h1.elim
  case lento fs=>
   obtain ⟨hfine,b0,us,e,rfl,hh,hF⟩:=h1
   simp only [yQ0,Bool.and_eq_true,Bool.not_eq_true'] at hfine
   obtain ⟨⟨f1,f2⟩,f3⟩:=hfine
   have B:=yNn (P:=P) (j:=j) (by omega) (i:=0) hF (by have:=Nat.le_of_ble_eq_true f1;omega) (Nat.le_of_ble_eq_true f2) f3
   have hfl:=Nat.le_of_ble_eq_true f1
   have hpi:zY w (.lento fs::ps) j (.pointer (some ⟨b0,0,none⟩)::vals)=(3*zD+j, .var b0)::(xK w j fs 0 us++zY w ps (j+1) vals):=by
    simp only [zY,zV7,zLy hh]
   have rangeF:∀q∈xK w j fs 0 us,q.1=zD+j∨q.1=2*zD+j∨∃k,k≤900∧q.1+1000*k+j+1=zD:=fun q hq=>by
    rcases B.range q hq with ⟨a1|a1,_⟩|⟨k,a1,a2,a3⟩
    ·exact .inl a1
    ·exact .inr (.inl a1)
    ·exact .inr (.inr ⟨k,by omega,a3⟩)
   refine ⟨by simp [A.len],fun m ok hm hok=>⟨_,vals,rfl,⟨b0,hm (3*zD+j, .var b0) (by rw [hpi];simp),rfl⟩,A.ls m ok (fun p hp=>hm p (by rw [hpi];simp [hp])) hok⟩,fun r c hc=> ?_, ?_, ?_, ?_, ?_, ?_, ?_⟩
   ·rw [hpi]
    simp only [yY] at hc
    rcases xBx hc with ⟨rfl,rfl⟩|hc
    ·exact ⟨.var b0,by simp,fun m ok hm hok _=>⟨us,e,hh,B.ls m ok (fun p hp=>hm p (by simp [hp])) hok⟩⟩
    ·rcases yUx hc with hc|hc
     ·obtain ⟨im,g1,g2⟩:=B.mem r c hc
      exact ⟨im,by simp [g1],fun m ok hm hok=>g2 m ok (fun p hp=>hm p (by simp [hp])) hok⟩
     ·obtain ⟨i,hi,hr⟩:=A.mem r c hc
      exact ⟨i,by simp [hi],fun m ok hm hok=>hr m ok (fun p hp=>hm p (by simp [hp])) hok⟩
   ·rw [hpi];simp [yY,A.keys,B.keys]
   ·rw [hpi]
    intro q hq
    simp only [List.mem_cons,List.mem_append] at hq
    rcases hq with rfl|hq|hq
    ·exact ⟨j,Nat.le_refl _,by omega, .inl ⟨.inr (.inr rfl),_, .inl rfl⟩⟩
    ·rcases B.range q hq with ⟨a1,a2,_⟩|⟨k,a1,a2,a3⟩
     ·exact ⟨j,Nat.le_refl _,by omega, .inl ⟨a1.imp (fun h=>h) .inl,a2⟩⟩
     ·exact ⟨j,Nat.le_refl _,by omega, .inr ⟨k,by omega,a3⟩⟩
    ·exact range' q hq
   ·rw [hpi]
    simp only [List.map_cons,List.map_append,List.nodup_cons,List.mem_append]
    refine ⟨?_,List.nodup_append.2 ⟨B.nodup,A.nodup, ?_⟩⟩
    ·rintro (hh|hh)
     ·obtain ⟨q,hq,e⟩:=List.mem_map.1 hh
      rcases rangeF q hq with h|h|⟨k,h,h'⟩<;>omega
     ·obtain ⟨q,hq,e⟩:=List.mem_map.1 hh
      exact (later q hq).2.2.1 e
    ·intro a ha b hb e
     obtain ⟨q,hq,rfl⟩:=List.mem_map.1 ha
     obtain ⟨q',hq',rfl⟩:=List.mem_map.1 hb
     obtain ⟨l1,l2,l3,l4⟩:=later q' hq'
     rcases rangeF q hq with h|h|⟨k,h,h'⟩
     ·exact l1 (e▸h)
     ·exact l2 (e▸h)
     ·exact l4 k h (e▸h')
   ·rw [hpi]
    simp only [List.flatMap_cons,List.flatMap_append,A.blocks,B.blocks,xJ,yVt,zLy hh]
    rfl
   ·rw [hpi]
    intro q hq
    simp only [List.mem_cons,List.mem_append] at hq
    rcases hq with rfl|hq|hq
    ·exact fun _=>trivial
    ·exact B.shape q hq
    ·exact A.shape q hq
   ·intro m hm
    rw [hpi] at hm
    have h5:=hm (3*zD+j, .var b0) (by simp)
    have h6:=B.lents m (fun p hp=>hm p (by simp [hp]))
    have h7:=A.lents m (fun p hp=>hm p (by simp [hp]))
    simp only [wU,rts,List.flatMap_cons,List.flatMap_append,xP,yHs,zLy hh] at h6 h7 ⊢
    rw [xM h5,h6,h7]
    rfl
  case mapk g=>exact h1.elim
  case seqk g=>exact h1.elim
  case lrow t=>exact plain rfl rfl rfl rfl rfl ⟨_,rfl,fun m ok hok=>trivial⟩
  case ext t=>exact plain rfl rfl rfl rfl rfl ⟨_,rfl,fun m ok hok=>trivial⟩
  case view=>exact plain rfl rfl rfl rfl rfl ⟨_,rfl,fun m ok hok=>trivial⟩
theorem yYv:∀ {l:List (Nat×zF)},(l.map (·.1)).Nodup→∀p∈l,look l p.1=some p.2
 | [],_,p,hp=>by simp at hp
 |(r,i)::l,hn,p,hp=>by
  simp only [List.map_cons,List.nodup_cons] at hn
  simp only [look]
  cases hp with
  |head=>simp
  |tail _ hp=>
   have:r≠p.1:=fun e=>hn.1 (e▸List.mem_map_of_mem hp)
   rw [if_neg this]
   exact yYv hn.2 p hp
theorem zXg:∀ {l:List (Nat×zF)} {r:Nat} {i:zF},look l r=some i→(r,i)∈l
 | [],_,_,h=>by simp [look] at h
 |(r',i')::l,r,i,h=>by
  simp only [look] at h
  split at h
  ·rename_i e;subst e;simp at h;subst h;simp
  ·simp [zXg h]
theorem xKb:∀ {l:List (Nat×zF)},(l.flatMap fun p=>bk p.2).Nodup→∀ {p q:Nat×zF} {b:Nat},p∈l→q∈l→b∈p.2.blocks→b∈q.2.blocks→p.1=q.1
 | [],_,_,_,_,hp,_,_,_=>by simp at hp
 |x::l,hn,p,q,b,hp,hq,h1,h2=>by
  simp only [List.flatMap_cons] at hn
  have hd:=List.nodup_append.1 hn
  have tailBlock:∀ {p:Nat×zF},p∈l→b∈p.2.blocks→b∈l.flatMap fun p=>bk p.2:=fun hp hb=>List.mem_flatMap.2 ⟨_,hp,by simp [bk,hb]⟩
  simp only [List.mem_cons] at hp hq
  rcases hp with rfl|hp<;>rcases hq with rfl|hq
  ·rfl
  ·exact absurd rfl (hd.2.2 b (by simp [bk,h1]) b (tailBlock hq h2))
  ·exact absurd rfl (hd.2.2 b (by simp [bk,h2]) b (tailBlock hp h1))
  ·exact xKb hd.2.1 hp hq h1 h2
theorem xEv {ok:Nat→Prop} {m:zO}:∀ {ls:List L} {vs:List Value},zR P w ok m ls vs→∀t,zL P w ok m (xHf ls t) (vs.getD t undef)
 | [],_,h,t=>by simp only [xHf];trivial
 |l::ls,_,h,t=>by
  obtain ⟨v,vs,rfl,h1,h2⟩:=h
  cases t with
  |zero=>exact h1
  |succ t=>exact xEv h2 t
def yHe [yG] (w:World) (ok0:Nat→Prop) (ps:List PK) (vals:List Value) (N:Nat) (hf:yG.fine w fun b=>ok0 b∧¬b∈xJ w ps vals):xI where
 w0:=w
 ok0:=ok0
 V0:=fun b=>b∈xJ w ps vals
 lent:=fun r=>match look (zY w ps 0 vals) r with
  |some (.var b)=>some b
  |some (.obj b _)=>some b
  |_=>none
 N:=N
 keep:=fun _=>none
 low:=w.heap.size
 lowOk:=Nat.le_refl _
 fine:=hf
theorem xPe {ok0:Nat→Prop} {ps:List PK} {x:RD PK.den ps} {vals:List Value} {N:Nat} (hok:∀b,ok0 b→b<w.heap.size) (hp:zTy P w ok0 ps x vals) (hl:ps.length≤1000) (hN:ps.length≤N)
 (hnd:(xJ w ps vals).Nodup) (hpb:∀b∈xJ w ps vals,b<w.heap.size∧¬ok0 b) (hfi:yG.fine w fun b=>ok0 b∧¬b∈xJ w ps vals):
 Rel P (yHe w ok0 ps vals N hfi) (look (zY w ps 0 vals)) (yVg ps x) {tmps:=vals.toArray++Array.replicate (N-vals.toArray.size) undef,defers:= []} w:=by
 have A:=xBt (j:=0) hp (by omega)
 have hm:∀p∈zY w ps 0 vals,look (zY w ps 0 vals) p.1=some p.2:=yYv A.nodup
 have inBlocks:∀ {p:Nat×zF} {b:Nat},p∈zY w ps 0 vals→b∈p.2.blocks→b∈xJ w ps vals:=fun hp hb=>by
  rw [←A.blocks];exact List.mem_flatMap.2 ⟨_,hp,by simp [bk,hb]⟩
 have oks:∀b,ok0 b→zK (yHe w ok0 ps vals N hfi) (look (zY w ps 0 vals)) (yVg ps x).mem w b:=fun b hb=>
  ⟨hok b hb, .inl hb,fun ⟨r,c,i,_,hi,hbk⟩=>(hpb b (inBlocks (zXg hi) hbk)).2 hb⟩
 have hn':(xJ w ps vals).Nodup:=hnd
 rw [←A.blocks] at hn'
 have bkn:∀ {p:Nat×zF},p∈zY w ps 0 vals→(bk p.2).Nodup:=fun {p} hp=>
  (List.sublist_flatten_of_mem (l:=bk p.2) (L:=(zY w ps 0 vals).map fun p=>bk p.2) (List.mem_map.2 ⟨_,hp,rfl⟩)).nodup (by rw [←List.flatMap_def];exact hn')
 refine ⟨fun t=> ?_,fun r c hc=> ?_,fun r r' c c' i i' b _ _ hi hi' hb hb'=>xKb hn' (zXg hi) (zXg hi') hb hb',fun r hr=> ?_,fun r hr hbase=> ?_,kV.refl _ _, ?_,zWg.nil,fun r i hi=>A.shape _ (zXg hi) (bkn (zXg hi)),fun _ _ h=>by cases h⟩
 ·have:=xEv (A.ls _ _ hm oks) t
  have e:(vals.toArray++Array.replicate (N-vals.toArray.size) undef).getD t undef=vals.getD t undef:=by
   rw [Array.getD_eq_getD_getElem?,List.getD_eq_getElem?_getD,Array.getElem?_append]
   split
   ·simp
   ·rename_i h
    have:vals[t]? =none:=List.getElem?_eq_none (by simpa using h)
    rw [this,Array.getElem?_replicate]
    split<;>rfl
  rw [e]
  exact this
 ·obtain ⟨i,hi,hr⟩:=A.mem r c hc
  exact ⟨i,hm _ hi,hr _ _ hm oks (bkn hi),fun b hb=>⟨(hpb b (inBlocks hi hb)).1, .inl (inBlocks hi hb)⟩⟩
 ·cases hx:look (zY w ps 0 vals) r with
  |none=>exact absurd hx hr
  |some i=>
   have:r∈(zY w ps 0 vals).map (·.1):=List.mem_map.2 ⟨_,zXg hx,rfl⟩
   rw [A.keys] at this
   simpa [yVg] using this
 ·obtain ⟨c,hc⟩:=Option.isSome_iff_exists.1 hr
  obtain ⟨i,hi,_⟩:=A.mem r c hc
  have:=hm _ hi
  obtain ⟨_,_,_,⟨_,b,hb⟩|⟨k,_,h'⟩⟩:=A.range _ hi
  ·rcases hb with hb|⟨bs,hb⟩<;>(simp only at hb this;subst hb)
   ·exact ⟨b,by simp [yHe,this], .inl this⟩
   ·exact ⟨b,by simp [yHe,this], .inr ⟨bs,this⟩⟩
  ·simp only at h';omega
 ·have:=A.len
  simp [yHe];omega
end
end Go.GG
namespace Go.GG
open Go.RowKit
section
variable {τ:yG} {P:Program} {E:xI} {m:zO} {s:St} {a:Act} {w:World}
structure xVk [yG] (P:Program) (E:xI) (m:zO) (s:St) (w:World) (rs:List RK) (y:RD RK.den rs) (g:List Nat) (lent:List Nat) (vs:List Value) (G Rs:List Nat):Prop where
 perm:g.Perm (G++(Rs++lent))
 alive:∀r∈G++(Rs++lent),(s.mem r).isSome
 blocks:(yF w rs vs (rts m lent)++rts m lent).Perm (zU m Rs++zU m lent)
 rep:∀ok',zSz E m s w ok' G→vM w ok' rs y vs (rts m lent)
def RK.plain:RK→Prop
 | .back _=>False
 | .backp _=>False
 | .backd=>False
 | .find=>False
 | .backo _=>False
 | .ofresho _=>False
 |_=>True
structure xTv [yG] (P:Program) (E:xI) (m:zO) (s:St) (w:World) (r:RK) (x:r.den) (g:List Nat) (v:Value) (G Rs:List Nat):Prop where
 perm:g.Perm (G++Rs)
 alive:∀r∈G++Rs,(s.mem r).isSome
 blocks:∀rs vs bs,yF w (r::rs) (v::vs) bs=zU m Rs++yF w rs vs bs
 rep:∀ok',zSz E m s w ok' G→yFi w ok' r x v
 notBack:r.plain
theorem yPs (h:Rel P E m s a w) {r:Nat} {ls ls':List L} {g:List Nat} {t:T} {x:t.den} (hr:s.mem r=some (.cells ls)) (hp:zAw s ls=some (ls',g)) (hi:t.implode ls'=some x):
 (∀r∈g,(s.mem r).isSome)∧∃b,m r=some (.var b)∧∀ok',zSz E m s w ok' g→zPa w ok' t x b:=by
 obtain ⟨i,h1,h2,h3⟩:=h.mem r _ hr
 cases i with
 |var b=>
  obtain ⟨us,e,h4,h5⟩:=h2
  obtain ⟨h6,h7⟩:=zQt h hp h5
  exact ⟨h6,b,h1,fun ok' hk=>⟨us,e,h4,wO hi (h7 ok' hk)⟩⟩
 |arr v=>exact h2.elim
 |shr v=>exact h2.elim
 |blk A c=>exact h2.elim
 |obj b bs=>exact h2.elim
 |deep v bs=>exact h2.elim
theorem yAp (h:Rel P E m s a w) {r r':Nat} {l:FL} {pin:Option (List UInt8×Nat)} (hr:s.mem r=some (.cells [.mref r'])) (hr':s.mem r'=some (.pm l pin)):
 ∃b0 b bs es clock,m r=some (.var b0)∧zHw w b0 b∧m r'=some (.obj b bs)∧(b::bs).Nodup∧w.heap[b]? =some (.map es clock)∧zQa w m l pin bs es clock:=by
 obtain ⟨i,h1,h2,h0⟩:=h.mem r _ hr
 cases i<;>simp only [yM] at h2
 rename_i b0
 obtain ⟨us,e,h3,v,vs,rfl,⟨b,hb,rfl⟩,h4⟩:=h2
 simp only [zR] at h4;subst h4
 obtain ⟨bs,es,clock,k1,k2,k3,k4⟩:=yZ3 h hr' hb
 exact ⟨b0,b,bs,es,clock,h1,⟨e,by simpa using h3⟩,k1,k2,k3,k4⟩
theorem xQs (h:Rel P E m s a w) {r r':Nat} {l:FL} {v:Value} (hr:s.mem r=some (.cells [.mref r'])) (hr':s.mem r'=some (.pm l none)) (hl:zL P w (zK E m s.mem w) m (.ptr r 0) v):
 ∃b0 b,m r=some (.var b0)∧v= .pointer (some ⟨b0,0,none⟩)∧zHw w b0 b∧zL6 w l b∧yEo w (.pointer (some ⟨b0,0,none⟩))=zU m [r,r']∧True:=by
 obtain ⟨b0,b,bs,es,clock,k1,k2,k3,k4,k5,k6⟩:=yAp h hr hr'
 obtain ⟨b1,h1,rfl⟩:=hl
 rw [k1] at h1;simp at h1;subst h1
 obtain ⟨h2,h3⟩:=zL6.of k5 k6
 refine ⟨b0,b,k1,rfl,k2,h2, ?_,trivial⟩
 rw [zS6 k2,h3]
 simp [zU,blk,k1,k3,zF.blocks]
theorem xPt (h:Rel P E m s a w) {r:RK} {l:L} {x:r.den} {g:List Nat} {v:Value} (ho:zQk s r l=some (x,g)) (hfit:yEj s l=true) (hl:zL P w (zK E m s.mem w) m l v):
 ∃G Rs,xTv P E m s w r x g v G Rs:=by
 unfold zQk at ho
 split at ho
 ·
  obtain ⟨h1,h2⟩:=yHi h ho hl
  exact ⟨g, [],by simp,by simpa using h1,fun _ _ _=>rfl,h2,trivial⟩
 ·
  split at ho
  ·rename_i ls' g1 hp
   split at ho
   ·rename_i z hz
    simp only [Option.some.injEq,Prod.mk.injEq] at ho
    obtain ⟨rfl,rfl⟩:=ho
    obtain ⟨vs,rfl,hls⟩:=hl
    obtain ⟨h1,h2⟩:=zQt h hp hls
    exact ⟨g1, [],by simp,by simpa using h1,fun _ _ _=>rfl,fun ok' hk=>⟨vs,rfl,wO hz (h2 ok' hk)⟩,trivial⟩
   ·simp at ho
  ·simp at ho
 ·
  rename_i t r
  split at ho
  ·rename_i t' xs hr
   split at ho
   ·rename_i z hz
    simp only [Option.some.injEq,Prod.mk.injEq] at ho
    obtain ⟨rfl,rfl⟩:=ho
    obtain ⟨e,he⟩:=yU hz
    cases e;subst he
    obtain ⟨i,h1,h2,h3⟩:=h.mem r _ hr
    simp only [zL] at hl
    rw [h1] at hl
    rcases hl with hl|hl<;>(simp at hl;subst hl;simp only [yM] at h2)
    refine ⟨[], [r],by simp,by simp [hr],fun rs vs bs=> ?_,fun ok' hk=>yN.mono (zS.weaken hk.old) (fun _ _=>rfl) h2,trivial⟩
    simp only [yF,zU,List.flatMap_cons,List.flatMap_nil,List.append_nil]
    rw [zC2 (h.shape _ _ h1),jL h1]
    rfl
   ·simp at ho
  ·simp at ho
 ·
  simp only [Option.some.injEq,Prod.mk.injEq] at ho
  obtain ⟨rfl,rfl⟩:=ho
  simp only [zL] at hl;subst hl
  exact ⟨[], [],by simp,by simp,fun _ _ _=>rfl,fun _ _=> .inl ⟨rfl,rfl⟩,trivial⟩
 ·
  rename_i t r cnt n
  split at ho
  ·rename_i t' xs c hr
   simp only [yEj,hr] at hfit
   have hn:=Nat.le_of_ble_eq_true hfit
   ·split at ho
    ·rename_i z hz
     simp only [Option.some.injEq,Prod.mk.injEq] at ho
     obtain ⟨rfl,rfl⟩:=ho
     obtain ⟨e,he⟩:=yU hz
     cases e;subst he
     obtain ⟨A,c1,k,hm,rfl,hk⟩:=hl
     obtain ⟨i,h1,h2,h3⟩:=h.mem r _ hr
     have hm0:=hm
     rcases hm with hm|⟨n0,hm⟩<;>(rw [hm] at h1;simp at h1;subst h1;simp only [yM] at h2)
     obtain ⟨rfl,h2⟩:=h2
     obtain rfl:k=0:=by
      have:=hk.resolve_left (by omega)
      omega
     have hA:A.map (·.add 0)=A:=by
      rcases h2 with ⟨h4,_⟩|⟨b,C,e',fr,cap,h4,_⟩
      ·simp only [Value.slice.injEq] at h4
       obtain ⟨rfl,_⟩:=h4
       rfl
      ·simp only [Value.slice.injEq] at h4
       obtain ⟨rfl,_⟩:=h4
       rfl
     rw [hA]
     have hpre:=yZi h2 (k:=n) hn
     refine ⟨[], [r],by simp,by simp [hr],fun rs vs bs=> ?_,fun ok' hk=>yN.mono (zS.weaken hk.old) (fun _ _=>rfl) hpre,trivial⟩
     simp only [yF,zU,List.flatMap_cons,List.flatMap_nil,List.append_nil]
     rw [jL hm]
     cases A<;>rfl
    ·simp at ho
  ·simp at ho
 ·
  split at ho
  ·rename_i z hz
   simp only [Option.some.injEq,Prod.mk.injEq] at ho
   obtain ⟨rfl,rfl⟩:=ho
   obtain ⟨e,he⟩:=yU hz
   cases e;subst he
   exact ⟨[], [],by simp,by simp,fun _ _ _=>rfl,fun ok' hk=>⟨T.holds_mono (t:= .slice _) (zS.weaken hk.old) hl.1,hl.2⟩,trivial⟩
  ·simp at ho
 ·
  rename_i t r
  split at ho
  ·rename_i ls hr
   split at ho
   ·rename_i ls' g1 hp
    split at ho
    ·rename_i z hz
     cases hb:Nat.ble zD r with
     |true=>rw [hb] at ho;simp at ho
     |false=>
      rw [hb] at ho
      simp only [cond_false,Option.some.injEq,Prod.mk.injEq] at ho
      obtain ⟨rfl,rfl⟩:=ho
      obtain ⟨h1,b,h2,h3⟩:=yPs h hr hp hz
      obtain ⟨b',h4,rfl⟩:=hl
      rw [h2] at h4;simp at h4;subst h4
      refine ⟨g1, [r], ?_,fun r' hr'=> ?_,fun rs vs bs=> ?_,fun ok' hk=>⟨b,rfl,h3 ok' hk⟩,trivial⟩
      ·exact (List.perm_append_singleton r g1).symm
      ·rcases List.mem_append.1 hr' with hr'|hr'
       ·exact h1 r' hr'
       ·simp at hr';subst hr';simp [hr]
      ·simp only [yF,zU,List.flatMap_cons,List.flatMap_nil,List.append_nil,zJv]
       rw [jL h2];rfl
    ·simp at ho
   ·simp at ho
  ·simp at ho
 ·
  simp only [Option.some.injEq,Prod.mk.injEq] at ho
  obtain ⟨rfl,rfl⟩:=ho
  simp only [zL] at hl;subst hl
  exact ⟨[], [],by simp,by simp,fun _ _ _=>rfl,fun _ _=> .inl ⟨rfl,rfl⟩,trivial⟩
 ·
  rename_i t r
  split at ho
  ·rename_i ls hr
   split at ho
   ·rename_i ls' g1 hp
    split at ho
    ·rename_i z hz
     cases hb:Nat.ble zD r with
     |true=>rw [hb] at ho;simp at ho
     |false=>
      rw [hb] at ho
      simp only [cond_false,Option.some.injEq,Prod.mk.injEq] at ho
      obtain ⟨rfl,rfl⟩:=ho
      obtain ⟨h1,b,h2,h3⟩:=yPs h hr hp hz
      obtain ⟨b',h4,rfl⟩:=hl
      rw [h2] at h4;simp at h4;subst h4
      refine ⟨g1, [r], ?_,fun r' hr'=> ?_,fun rs vs bs=> ?_,fun ok' hk=> .inr ⟨z,b,rfl,rfl,h3 ok' hk⟩,trivial⟩
      ·exact (List.perm_append_singleton r g1).symm
      ·rcases List.mem_append.1 hr' with hr'|hr'
       ·exact h1 r' hr'
       ·simp at hr';subst hr';simp [hr]
      ·simp only [yF,zU,List.flatMap_cons,List.flatMap_nil,List.append_nil,zJv]
       rw [jL h2];rfl
    ·simp at ho
   ·simp at ho
  ·simp at ho
 ·
  simp only [Option.some.injEq,Prod.mk.injEq] at ho
  obtain ⟨rfl,rfl⟩:=ho
  exact ⟨[], [],by simp,by simp,fun _ _ _=>rfl,fun _ _=> .inl ⟨rfl,hl⟩,trivial⟩
 ·
  split at ho
  ·rename_i z hz
   simp only [Option.some.injEq,Prod.mk.injEq] at ho
   obtain ⟨rfl,rfl⟩:=ho
   obtain ⟨e,he⟩:=yU hz
   cases e;subst he
   exact ⟨[], [],by simp,by simp,fun _ _ _=>rfl,fun ok' hk=> .inr ⟨_,rfl,T.holds_mono (t:= .slice _) (zS.weaken hk.old) hl.1,hl.2⟩,trivial⟩
  ·simp at ho
 ·simp only [Option.some.injEq,Prod.mk.injEq] at ho
  obtain ⟨_,rfl⟩:=ho
  exact ⟨[], [],by simp,by simp,fun _ _ _=>rfl,fun _ _=>hl,trivial⟩
 ·simp only [Option.some.injEq,Prod.mk.injEq] at ho
  obtain ⟨_,rfl⟩:=ho
  exact ⟨[], [],by simp,by simp,fun _ _ _=>rfl,fun _ _=>hl,trivial⟩
 ·simp only [Option.some.injEq,Prod.mk.injEq] at ho
  obtain ⟨_,rfl⟩:=ho
  exact ⟨[], [],by simp,by simp,fun _ _ _=>rfl,fun _ _=>hl,trivial⟩
 ·
  rename_i r
  split at ho
  ·rename_i r' hr
   split at ho
   ·rename_i l0 hr'
    cases hb:(Nat.ble zD r||Nat.ble zD r') with
    |true=>rw [hb] at ho;simp at ho
    |false=>
     rw [hb] at ho
     simp only [cond_false,Option.some.injEq,Prod.mk.injEq] at ho
     obtain ⟨rfl,rfl⟩:=ho
     obtain ⟨b0,b,k1,rfl,k2,k3,k4,k5⟩:=xQs h hr hr' hl
     exact ⟨[], [r,r'],by simp,by simp [hr,hr'],fun rs vs bs=>by simp only [yF,k4],fun ok' hk=>⟨b0,b,rfl,k2,k3⟩,trivial⟩
   ·simp at ho
  ·simp at ho
 ·
  simp only [Option.some.injEq,Prod.mk.injEq] at ho
  obtain ⟨rfl,rfl⟩:=ho
  simp only [zL] at hl;subst hl
  exact ⟨[], [],by simp,by simp,fun _ _ _=>rfl,fun _ _=> .inl ⟨rfl,rfl⟩,trivial⟩
 ·
  rename_i r
  split at ho
  ·rename_i r' hr
   split at ho
   ·rename_i l0 hr'
    cases hb:(Nat.ble zD r||Nat.ble zD r') with
    |true=>rw [hb] at ho;simp at ho
    |false=>
     rw [hb] at ho
     simp only [cond_false,Option.some.injEq,Prod.mk.injEq] at ho
     obtain ⟨rfl,rfl⟩:=ho
     obtain ⟨b0,b,k1,rfl,k2,k3,k4,k5⟩:=xQs h hr hr' hl
     exact ⟨[], [r,r'],by simp,by simp [hr,hr'],fun rs vs bs=>by simp only [yF,k4],fun ok' hk=> .inr ⟨l0,b0,b,rfl,rfl,k2,k3⟩,trivial⟩
   ·simp at ho
  ·simp at ho
 ·
  rename_i r
  split at ho
  ·rename_i l0 hr
   simp only [Option.some.injEq,Prod.mk.injEq] at ho
   obtain ⟨rfl,rfl⟩:=ho
   obtain ⟨v0,bs,k1,k2,k3⟩:=zOp h hr
   obtain ⟨_,hl⟩:=hl
   rw [k1] at hl
   simp only [Option.some.injEq,zF.deep.injEq] at hl
   obtain ⟨rfl,rfl⟩:=hl
   obtain ⟨k4,k5⟩:=zL7.of k3
   refine ⟨[], [r],by simp,by simp [hr],fun rs vs bs'=> ?_,fun ok' hk=>zL7.mono (zS.weaken hk.old) k4,trivial⟩
   simp only [yF,zU,List.flatMap_cons,List.flatMap_nil,List.append_nil,k5]
   rw [jL k1]
   rfl
  ·simp at ho
 ·
  simp only [Option.some.injEq,Prod.mk.injEq] at ho
  obtain ⟨rfl,rfl⟩:=ho
  simp only [zL] at hl;subst hl
  exact ⟨[], [],by simp,by simp,fun _ _ _=>rfl,fun _ _=> .inl ⟨rfl,rfl,rfl,rfl⟩,trivial⟩
 ·simp at ho
theorem xOo {ok:Nat→Prop} {r:RK} (hn:r.plain) {rs:List RK} {x:r.den} {y:RD RK.den rs} {v:Value} {vs:List Value} {bs:List Nat} (h1:yFi w ok r x v) (h2:vM w ok rs y vs bs):
 vM w ok (r::rs) (RD.mk (k:=r) x y) (v::vs) bs:=by
 cases r
 case back t=>exact hn.elim
 case backp t=>exact hn.elim
 case backd=>exact hn.elim
 case find=>exact hn.elim
 case backo fs=>exact hn.elim
 case ofresho fs=>exact hn.elim
 all_goals exact ⟨v,vs,rfl,by rw [vQ];exact h1,by rw [xQ];exact h2⟩
theorem xO1 (G1 R1 G2 R2 l:List Nat):((G1++R1)++(G2++(R2++l))).Perm ((G1++G2)++((R1++R2)++l)):=by
 simp only [List.append_assoc]
 refine List.Perm.append_left G1 ?_
 rw [←List.append_assoc,←List.append_assoc G2]
 exact List.Perm.append_right _ List.perm_append_comm
theorem xKn {x y u v p:List Nat} (h:(x++y).Perm (u++v)):(x++(p++y)).Perm (u++(p++v)):=by
 refine List.perm_iff_count.2 fun n=> ?_
 have:=h.count_eq n
 simp only [List.count_append] at this ⊢
 omega
theorem yS.pinned {k:List UInt8} {R p:Nat} (hR:m R=some (.var p)):∀ {l:FL} {es:List MapEntry},yS w m (some (k,R)) l es→k∈l.map (·.1)→∃e∈es,keyOf e.key=k∧e.val= .pointer (some ⟨p,0,none⟩)
 | [],_,_,hk=>by simp at hk
 |(k',x)::l,_,h,hk=>by
  obtain ⟨e,es',rfl,⟨h1,h2⟩,h3⟩:=h
  by_cases e1:k'=k
  ·subst e1
   refine ⟨e,by simp,by rw [h1,zMn], ?_⟩
   rcases h2 with ⟨R',b,h4,h5,h6⟩|h2
   ·simp only [Option.some.injEq,Prod.mk.injEq,true_and] at h4;subst h4
    rw [hR] at h5;simp at h5;subst h5;exact h6
   ·exact absurd rfl (h2.1 R)
  ·obtain ⟨e2,h4,h5,h6⟩:=yS.pinned hR h3 (by simpa [Ne.symm e1] using hk)
   exact ⟨e2,by simp [h4],h5,h6⟩
structure xVg [yG] (P:Program) (E:xI) (m:zO) (s:St) (w:World) (fs:List FK) (x:RD FK.den fs) (g:List Nat) (us:List Value) (lent lent' G Rs pre:List Nat):Prop where
 perm:g.Perm (G++(Rs++pre))
 alive:∀r∈G++(Rs++pre),(s.mem r).isSome
 spl:lent=pre++lent'
 rest:yV3 fs (rts m lent)=rts m lent'
 blocks:(zP6 w fs us (rts m lent)++rts m pre).Perm (zU m Rs++zU m pre)
 rep:∀ok',zSz E m s w ok' G→zAc w ok' fs x us (rts m lent)
 nodsk:fs.any FK.isDsk=false→pre= []
theorem xOb (m:zO) (a b:List Nat):rts m (a++b)=rts m a++rts m b:=by simp [rts]
theorem zUl (h:Rel P E m s a w):∀ {fs:List FK} {ls:List L} {lent lent':List Nat} {x:RD FK.den fs} {g:List Nat} {us:List Value},wG s fs ls lent=some (x,g,lent')→zR P w (zK E m s.mem w) m ls us→
 ∃G Rs pre,xVg P E m s w fs x g us lent lent' G Rs pre
 | [],ls,lent,lent',x,g,us,ho,hl=>by
   cases ls with
   |cons l ls=>simp [wG] at ho
   |nil=>
    simp only [wG,Option.some.injEq,Prod.mk.injEq] at ho
    obtain ⟨_,rfl,rfl⟩:=ho
    simp only [zR] at hl;subst hl
    exact ⟨[], [], [],by simp,by simp,rfl,rfl,by simp [zP6,zU,rts],fun _ _=>rfl,fun _=>rfl⟩
 | .imm t::fs,ls,lent,lent',x,g,us,ho,hl=>by
   cases ls with
   |nil=>simp [wG] at ho
   |cons l ls=>
    obtain ⟨u,us',rfl,h1,h2⟩:=hl
    simp only [wG] at ho
    split at ho
    ·rename_i y g1 hy
     split at ho
     ·rename_i z g2 lent2 hz
      cases ht:t.leaf with
      |false=>rw [ht] at ho;simp at ho
      |true=>
       rw [ht] at ho
       simp only [cond_true,Option.some.injEq,Prod.mk.injEq] at ho
       obtain ⟨rfl,rfl,rfl⟩:=ho
       obtain ⟨k1,k2⟩:=yHi h hy h1
       obtain ⟨G,Rs,pre,A⟩:=zUl h hz h2
       refine ⟨g1++G,Rs,pre, ?_,fun r hr=> ?_,A.spl,A.rest,A.blocks,fun ok' hk=>⟨u,us',rfl,by rw [zTo];exact k2 ok' hk.left,by rw [zQy];exact A.rep ok' hk.right⟩,fun hd=>A.nodsk (by simpa [FK.isDsk] using hd)⟩
       ·rw [List.append_assoc];exact List.Perm.append_left g1 A.perm
       ·rw [List.append_assoc] at hr
        rcases List.mem_append.1 hr with hr|hr
        ·exact k1 r hr
        ·exact A.alive r hr
     ·simp at ho
    ·simp at ho
 | .row t::fs,ls,lent,lent',x,g,us,ho,hl=>by
   cases ls with
   |nil=>simp [wG] at ho
   |cons l ls=>
    obtain ⟨u,us',rfl,h1,h2⟩:=hl
    cases l<;>simp only [wG] at ho<;>try (cases ho;done)
    case nils=>
     split at ho
     ·rename_i z g2 lent2 hz
      simp only [Option.some.injEq,Prod.mk.injEq] at ho
      obtain ⟨rfl,rfl,rfl⟩:=ho
      obtain ⟨G,Rs,pre,A⟩:=zUl h hz h2
      simp only [zL] at h1;subst h1
      exact ⟨G,Rs,pre,A.perm,A.alive,A.spl,A.rest,A.blocks,fun ok' hk=>⟨_,us',rfl,by rw [zTo];exact .inl ⟨rfl,rfl⟩,by rw [zQy];exact A.rep ok' hk⟩,fun hd=>A.nodsk (by simpa [FK.isDsk] using hd)⟩
     ·simp at ho
    case sref r=>
     split at ho
     ·rename_i t' xs hr
      split at ho
      ·rename_i y hy
       split at ho
       ·rename_i z g2 lent2 hz
        simp only [Option.some.injEq,Prod.mk.injEq] at ho
        obtain ⟨rfl,rfl,rfl⟩:=ho
        obtain ⟨e,he⟩:=yU hy
        cases e;subst he
        obtain ⟨G,Rs,pre,A⟩:=zUl h hz h2
        obtain ⟨i,k1,k2,k3⟩:=h.mem r _ hr
        simp only [zL] at h1
        rw [k1] at h1
        rcases h1 with h1|h1<;>(simp at h1;subst h1;simp only [yM] at k2)
        have hb:kW u=blk m r:=by rw [zC2 (h.shape _ _ k1),jL k1];rfl
        refine ⟨G,r::Rs,pre, ?_,fun q hq=> ?_,A.spl,A.rest, ?_,fun ok' hk=>⟨_,us',rfl,by rw [zTo];exact yN.mono (zS.weaken hk.old) (fun _ _=>rfl) k2,by rw [zQy];exact A.rep ok' hk⟩,fun hd=>A.nodsk (by simpa [FK.isDsk] using hd)⟩
        ·refine (A.perm.cons r).trans (List.perm_iff_count.2 fun n=> ?_)
         simp only [List.count_append,List.count_cons]
         omega
        ·simp only [List.mem_append,List.mem_cons] at hq
         rcases hq with hq|(rfl|hq)|hq
         ·exact A.alive _ (by simp [hq])
         ·simp [hr]
         ·exact A.alive _ (by simp [hq])
         ·exact A.alive _ (by simp [hq])
        ·simp only [zP6,hb,zU,List.flatMap_cons,List.append_assoc]
         exact List.Perm.append_left _ A.blocks
       ·simp at ho
      ·simp at ho
     ·simp at ho
 | .segs::fs,ls,lent,lent',x,g,us,ho,hl=>by
   cases ls with
   |nil=>simp [wG] at ho
   |cons l ls=>
    obtain ⟨u,us',rfl,h1,h2⟩:=hl
    cases l<;>simp only [wG] at ho<;>try (cases ho;done)
    case nils=>
     split at ho
     ·rename_i z g2 lent2 hz
      simp only [Option.some.injEq,Prod.mk.injEq] at ho
      obtain ⟨rfl,rfl,rfl⟩:=ho
      obtain ⟨G,Rs,pre,A⟩:=zUl h hz h2
      simp only [zL] at h1;subst h1
      exact ⟨G,Rs,pre,A.perm,A.alive,A.spl,A.rest,A.blocks,fun ok' hk=>⟨_,us',rfl,by rw [zTo];exact .inl ⟨rfl,rfl,rfl,rfl⟩,by rw [zQy];exact A.rep ok' hk⟩,fun hd=>A.nodsk (by simpa [FK.isDsk] using hd)⟩
     ·simp at ho
    case dref r=>
     split at ho
     ·rename_i l0 hr
      split at ho
      ·rename_i z g2 lent2 hz
       simp only [Option.some.injEq,Prod.mk.injEq] at ho
       obtain ⟨rfl,rfl,rfl⟩:=ho
       obtain ⟨G,Rs,pre,A⟩:=zUl h hz h2
       obtain ⟨v0,bs,k1,k2,k3⟩:=zOp h hr
       obtain ⟨_,h1⟩:=h1
       rw [k1] at h1
       simp only [Option.some.injEq,zF.deep.injEq] at h1
       obtain ⟨rfl,rfl⟩:=h1
       obtain ⟨k4,k5⟩:=zL7.of k3
       have hb:zIz w v0=blk m r:=by rw [k5,jL k1];rfl
       refine ⟨G,r::Rs,pre, ?_,fun q hq=> ?_,A.spl,A.rest, ?_,fun ok' hk=>⟨_,us',rfl,by rw [zTo];exact zL7.mono (zS.weaken hk.old) k4,by rw [zQy];exact A.rep ok' hk⟩,fun hd=>A.nodsk (by simpa [FK.isDsk] using hd)⟩
       ·refine (A.perm.cons r).trans (List.perm_iff_count.2 fun n=> ?_)
        simp only [List.count_append,List.count_cons]
        omega
       ·simp only [List.mem_append,List.mem_cons] at hq
        rcases hq with hq|(rfl|hq)|hq
        ·exact A.alive _ (by simp [hq])
        ·simp [hr]
        ·exact A.alive _ (by simp [hq])
        ·exact A.alive _ (by simp [hq])
       ·simp only [zP6,hb,zU,List.flatMap_cons,List.append_assoc]
        exact List.Perm.append_left _ A.blocks
      ·simp at ho
     ·simp at ho
 | .dsk::fs,ls,lent,lent',x,g,us,ho,hl=>by
   cases ls with
   |nil=>cases lent with
    |nil=>simp [wG] at ho
    |cons r0 lent=>cases lent<;>simp [wG] at ho
   |cons l ls=>
   cases lent with
   |nil=>simp [wG] at ho
   |cons r0 lent=>
   cases lent with
   |nil=>simp [wG] at ho
   |cons r1 lent=>
    obtain ⟨u,us',rfl,h1,h2⟩:=hl
    cases l<;>try (simp [wG] at ho;done)
    rename_i r o
    cases o
    case succ=>simp [wG] at ho
    simp only [wG] at ho
    split at ho
    ·rename_i r' hr0
     split at ho
     ·rename_i l0 hr1
      split at ho
      ·rename_i z g2 lent2 hz
       cases hb:(Nat.beq r r0&&Nat.beq r' r1) with
       |false=>rw [hb] at ho;simp at ho
       |true=>
        rw [hb] at ho
        simp only [cond_true,Option.some.injEq,Prod.mk.injEq] at ho
        obtain ⟨rfl,rfl,rfl⟩:=ho
        simp only [Bool.and_eq_true] at hb
        obtain rfl:=Nat.eq_of_beq_eq_true hb.1
        obtain rfl:=Nat.eq_of_beq_eq_true hb.2
        obtain ⟨G,Rs,pre,A⟩:=zUl h hz h2
        obtain ⟨b0,b,bs,es,clock,k1,k2,k3,k4,k5,k6⟩:=yAp h hr0 hr1
        obtain ⟨k7,k8⟩:=zL6.of k5 k6
        obtain ⟨b',h1,rfl⟩:=h1
        rw [k1] at h1;simp at h1;subst h1
        have e:∀q,rts m (r::r'::q)=b0::b::rts m q:=fun q=>by simp [rts,xM k1,xM k3,zF.roots,zF.blocks]
        have e':∀q,zU m (r::r'::q)=b0::b::(bs++zU m q):=fun q=>by simp [zU,jL k1,jL k3,bk,zF.blocks]
        refine ⟨G,Rs,r::r'::pre, ?_,fun q hq=> ?_,by simp [←A.spl],by rw [e];exact A.rest, ?_,fun ok' hk=> ?_,fun hd=>by simp [FK.isDsk] at hd⟩
        ·refine ((A.perm.cons r').cons r).trans (List.perm_iff_count.2 fun n=> ?_)
         simp only [List.count_append,List.count_cons]
         omega
        ·simp only [List.mem_append,List.mem_cons] at hq
         rcases hq with hq|hq|rfl|rfl|hq
         ·exact A.alive _ (by simp [hq])
         ·exact A.alive _ (by simp [hq])
         ·simp [hr0]
         ·simp [hr1]
         ·exact A.alive _ (by simp [hq])
        ·rw [e,e,e']
         simp only [zP6]
         rw [k8]
         refine List.perm_iff_count.2 fun n=> ?_
         have:=A.blocks.count_eq n
         simp only [List.count_append,List.count_cons] at this ⊢
         omega
        ·rw [e]
         exact ⟨b0,b,_,us',rfl,rfl,k2,by rw [zTo];exact k7,by rw [zQy];exact A.rep ok' hk⟩
      ·simp at ho
     ·simp at ho
    ·simp at ho
 | .als::fs,ls,lent,lent',x,g,us,ho,hl=>by
   cases ls with
   |nil=>cases lent<;>simp [wG] at ho
   |cons l ls=>
   cases lent with
   |nil=>simp [wG] at ho
   |cons r0 lent=>
    obtain ⟨u,us',rfl,h1,h2⟩:=hl
    cases l<;>try (simp [wG] at ho;done)
    rename_i r o
    cases o
    case succ=>simp [wG] at ho
    simp only [wG] at ho
    split at ho
    ·rename_i z g2 lent2 hz
     cases hb:Nat.beq r r0 with
     |false=>rw [hb] at ho;simp at ho
     |true=>
      rw [hb] at ho
      simp only [cond_true,Option.some.injEq,Prod.mk.injEq] at ho
      obtain ⟨rfl,rfl,rfl⟩:=ho
      obtain rfl:=Nat.eq_of_beq_eq_true hb
      obtain ⟨G,Rs,pre,A⟩:=zUl h hz h2
      obtain ⟨b',h1,rfl⟩:=h1
      have e:rts m (r::lent)=b'::rts m lent:=by simp [rts,xM h1,zF.roots,zF.blocks]
      refine ⟨G,Rs,pre,A.perm,A.alive,A.spl,A.rest,A.blocks,fun ok' hk=> ?_,fun hd=>A.nodsk (by simpa [FK.isDsk] using hd)⟩
      have:=A.rep ok' hk
      rw [e] at this ⊢
      exact ⟨b',_,us',rfl,rfl,by rw [zQy];exact this⟩
    ·simp at ho
theorem zH9 (h:Rel P E m s a w):∀ {rs:List RK} {ls:List L} {lent:List Nat} {y:RD RK.den rs} {g:List Nat} {vs:List Value},wS s rs ls lent=some (y,g)→ls.all (yEj s)=true→zR P w (zK E m s.mem w) m ls vs→
 ∃G Rs,xVk P E m s w rs y g lent vs G Rs
 | [],ls,lent,y,g,vs,ho,_,hl=>by
   cases ls with
   |cons l ls=>simp [wS] at ho
   |nil=>
    cases lent with
    |cons r lent=>simp [wS] at ho
    |nil=>
     simp only [wS,Option.some.injEq,Prod.mk.injEq] at ho
     obtain ⟨_,rfl⟩:=ho
     simp only [zR] at hl;subst hl
     exact ⟨[], [],by simp,by simp,List.Perm.refl _,fun _ _=>⟨rfl,rfl⟩⟩
 |r::rs,ls,lent,y,g,vs,ho,hfit,hl=>by
  by_cases hb:∃t,r= .back t
  ·obtain ⟨t,rfl⟩:=hb
   cases lent with
   |nil=>cases ls<;>simp [wS,zQk] at ho
   |cons r0 lent=>
    simp only [wS] at ho
    split at ho
    ·rename_i ms hr
     split at ho
     ·rename_i ms' g1 hp
      split at ho
      ·rename_i x hx
       split at ho
       ·rename_i z g2 hz
        simp only [Option.some.injEq,Prod.mk.injEq] at ho
        obtain ⟨rfl,rfl⟩:=ho
        obtain ⟨h1,b,h2,h3⟩:=yPs h hr hp hx
        obtain ⟨G,Rs,A⟩:=zH9 h hz hfit hl
        refine ⟨g1++G,Rs, ?_,fun r' hr'=> ?_, ?_,fun ok' hk=> ?_⟩
        ·have p1:(g1++g2).Perm (g1++(G++(Rs++lent))):=List.Perm.append_left g1 A.perm
         have p2:(r0::(g1++(G++(Rs++lent)))).Perm ((g1++G)++(Rs++(r0::lent))):=by
          have:(g1++G)++(Rs++(r0::lent))=((g1++G)++Rs)++r0::lent:=by simp
          rw [this]
          have:=(List.perm_middle (a:=r0) (l₁:=(g1++G)++Rs) (l₂:=lent)).symm
          simpa [List.append_assoc] using this
         exact (p1.cons r0).trans p2
        ·simp only [List.mem_append,List.mem_cons] at hr'
         rcases hr' with (hr'|hr')|hr'|hr'|hr'
         ·exact h1 r' hr'
         ·exact A.alive r' (by simp [hr'])
         ·exact A.alive r' (by simp [hr'])
         ·subst hr';simp [hr]
         ·exact A.alive r' (by simp [hr'])
        ·have e:rts m (r0::lent)=b::rts m lent:=by simp [rts,xM h2,zF.roots,zF.blocks]
         have e':zU m (r0::lent)=b::zU m lent:=by simp [zU,jL h2,bk,zF.blocks]
         rw [e,e']
         simp only [yF]
         exact xKn (p:= [b]) A.blocks
        ·have e:rts m (r0::lent)=b::rts m lent:=by simp [rts,xM h2,zF.roots,zF.blocks]
         rw [e]
         exact ⟨b,_,rfl,by rw [vQ];exact h3 ok' hk.left,by rw [xQ];exact A.rep ok' hk.right⟩
       ·simp at ho
      ·simp at ho
     ·simp at ho
    ·simp at ho
  by_cases hbp:∃t,r= .backp t
  ·obtain ⟨t,rfl⟩:=hbp
   cases lent with
   |nil=>cases ls<;>simp [wS,zQk] at ho
   |cons r0 lent=>
   cases lent with
   |nil=>cases ls<;>simp [wS,zQk] at ho
   |cons r1 lent=>
    simp only [wS] at ho
    split at ho
    ·rename_i r' hr0
     cases hbq:Nat.beq r' r1 with
     |false=>rw [hbq] at ho;simp at ho
     |true=>
     rw [hbq] at ho
     simp only [cond_true] at ho
     obtain rfl:=Nat.eq_of_beq_eq_true hbq
     split at ho
     ·rename_i ms hr
      split at ho
      ·rename_i ms' g1 hp
       split at ho
       ·rename_i x hx
        split at ho
        ·rename_i z g2 hz
         simp only [Option.some.injEq,Prod.mk.injEq] at ho
         obtain ⟨rfl,rfl⟩:=ho
         obtain ⟨h1,b,h2,h3⟩:=yPs h hr hp hx
         obtain ⟨G,Rs,A⟩:=zH9 h hz hfit hl
         obtain ⟨b0,hm0,hpt⟩:∃b0,m r0=some (.var b0)∧yVp w b0 b:=by
          obtain ⟨i,q1,q2,_⟩:=h.mem r0 _ hr0
          cases i with
          |var b0=>
           obtain ⟨us,e,q3,v0,vs0,rfl,⟨b',q4,rfl⟩,q5⟩:=q2
           simp only [zR] at q5;subst q5
           rw [h2] at q4
           simp only [Option.some.injEq,zF.var.injEq] at q4
           subst q4
           exact ⟨b0,q1,e,by simpa using q3⟩
          |arr v=>exact q2.elim
          |shr v=>exact q2.elim
          |blk A c=>exact q2.elim
          |obj b bs=>exact q2.elim
          |deep v bs=>exact q2.elim
         refine ⟨g1++G,Rs, ?_,fun r' hr'=> ?_, ?_,fun ok' hk=> ?_⟩
         ·have p1:(g1++g2).Perm (g1++(G++(Rs++lent))):=List.Perm.append_left g1 A.perm
          have p2:(r0::r'::(g1++(G++(Rs++lent)))).Perm ((g1++G)++(Rs++(r0::r'::lent))):=by
           have:(g1++G)++(Rs++(r0::r'::lent))=((g1++G)++Rs)++([r0,r']++lent):=by simp
           rw [this]
           have p3:([r0,r']++(((g1++G)++Rs)++lent)).Perm ((((g1++G)++Rs))++([r0,r']++lent)):=by
            generalize (g1++G)++Rs=q
            rw [←List.append_assoc,←List.append_assoc]
            exact List.Perm.append_right _ List.perm_append_comm
           simpa [List.append_assoc] using p3
          exact ((p1.cons r').cons r0).trans p2
         ·simp only [List.mem_append,List.mem_cons] at hr'
          rcases hr' with (hr'|hr')|hr'|hr'|hr'|hr'
          ·exact h1 _ hr'
          ·exact A.alive _ (by simp [hr'])
          ·exact A.alive _ (by simp [hr'])
          ·subst hr';simp [hr0]
          ·subst hr';simp [hr]
          ·exact A.alive _ (by simp [hr'])
         ·have e:rts m (r0::r'::lent)=b0::b::rts m lent:=by simp [rts,xM h2,xM hm0,zF.roots,zF.blocks]
          have e':zU m (r0::r'::lent)=b0::b::zU m lent:=by simp [zU,jL h2,jL hm0,bk,zF.blocks]
          rw [e,e']
          simp only [yF]
          exact xKn (p:= [b0,b]) A.blocks
         ·have e:rts m (r0::r'::lent)=b0::b::rts m lent:=by simp [rts,xM h2,xM hm0,zF.roots,zF.blocks]
          rw [e]
          exact ⟨b0,b,_,rfl,hpt,by rw [vQ];exact h3 ok' hk.left,by rw [xQ];exact A.rep ok' hk.right⟩
        ·simp at ho
       ·simp at ho
      ·simp at ho
     ·simp at ho
    ·simp at ho
  by_cases hbd:r= .backd
  ·subst hbd
   cases lent with
   |nil=>cases ls<;>simp [wS,zQk] at ho
   |cons r0 lent=>
   cases lent with
   |nil=>cases ls<;>simp [wS,zQk] at ho
   |cons r1 lent=>
    simp only [wS] at ho
    split at ho
    ·rename_i r' hr0
     cases hbq:Nat.beq r' r1 with
     |false=>rw [hbq] at ho;simp at ho
     |true=>
     rw [hbq] at ho
     simp only [cond_true] at ho
     obtain rfl:=Nat.eq_of_beq_eq_true hbq
     split at ho
     ·rename_i l hr
      split at ho
      ·rename_i z g2 hz
       simp only [Option.some.injEq,Prod.mk.injEq] at ho
       obtain ⟨rfl,rfl⟩:=ho
       obtain ⟨G,Rs,A⟩:=zH9 h hz hfit hl
       obtain ⟨b0,b,bs,es,clock,k1,k2,k3,k4,k5,k6⟩:=yAp h hr0 hr
       obtain ⟨k7,k8⟩:=zL6.of k5 k6
       have e:rts m (r0::r'::lent)=b0::b::rts m lent:=by simp [rts,xM k1,xM k3,zF.roots,zF.blocks]
       have e':zU m (r0::r'::lent)=b0::b::(bs++zU m lent):=by simp [zU,jL k1,jL k3,bk,zF.blocks]
       refine ⟨G,Rs, ?_,fun r'' hr''=> ?_, ?_,fun ok' hk=> ?_⟩
       ·exact (List.Perm.append_left [r0,r'] A.perm).trans (by
         refine List.perm_iff_count.2 fun n=> ?_
         simp only [List.count_append,List.count_cons,List.count_nil]
         omega)
       ·simp only [List.mem_append,List.mem_cons] at hr''
        rcases hr'' with hr''|hr''|rfl|rfl|hr''
        ·exact A.alive _ (by simp [hr''])
        ·exact A.alive _ (by simp [hr''])
        ·simp [hr0]
        ·simp [hr]
        ·exact A.alive _ (by simp [hr''])
       ·rw [e,e']
        simp only [yF]
        rw [k8]
        refine List.perm_iff_count.2 fun n=> ?_
        have:=A.blocks.count_eq n
        simp only [List.count_append,List.count_cons] at this ⊢
        omega
       ·rw [e]
        exact ⟨b0,b,_,rfl,k2,by rw [vQ];exact k7,by rw [xQ];exact A.rep ok' hk⟩
      ·simp at ho
     ·simp at ho
    ·simp at ho
  by_cases hfd:r= .find
  ·subst hfd
   cases ls with
   |nil=>cases lent with
    |nil=>simp [wS] at ho
    |cons r0 lent=>cases lent<;>simp [wS] at ho
   |cons l0 ls=>
   cases lent with
   |nil=>simp [wS,zQk] at ho
   |cons r0 lent=>
   cases lent with
   |nil=>simp [wS,zQk] at ho
   |cons r1 lent=>
    obtain ⟨v0,vs',rfl,hv0,hl'⟩:=hl
    simp only [List.all_cons,Bool.and_eq_true] at hfit
    simp only [wS] at ho
    split at ho
    ·rename_i r' hr0
     cases hbq:Nat.beq r' r1 with
     |false=>rw [hbq] at ho;simp at ho
     |true=>
     rw [hbq] at ho
     simp only [cond_true] at ho
     obtain rfl:=Nat.eq_of_beq_eq_true hbq
     split at ho
     ·rename_i f hr
      split at ho
      ·split at ho
       ·rename_i z g2 hz
        simp only [Option.some.injEq,Prod.mk.injEq] at ho
        obtain ⟨rfl,rfl⟩:=ho
        obtain ⟨G,Rs,A⟩:=zH9 h hz hfit.2 hl'
        obtain ⟨b0,b,bs,es,clock,k1,k2,k3,k4,k5,k6⟩:=yAp h hr0 hr
        obtain ⟨k7,k8⟩:=zL6.of k5 k6
        have e:rts m (r0::r'::lent)=b0::b::rts m lent:=by simp [rts,xM k1,xM k3,zF.roots,zF.blocks]
        have e':zU m (r0::r'::lent)=b0::b::(bs++zU m lent):=by simp [zU,jL k1,jL k3,bk,zF.blocks]
        simp only [zL] at hv0
        refine ⟨G,Rs, ?_,fun r'' hr''=> ?_, ?_,fun ok' hk=> ?_⟩
        ·exact (List.Perm.append_left [r0,r'] A.perm).trans (by
          refine List.perm_iff_count.2 fun n=> ?_
          simp only [List.count_append,List.count_cons,List.count_nil]
          omega)
        ·simp only [List.mem_append,List.mem_cons] at hr''
         rcases hr'' with hr''|hr''|rfl|rfl|hr''
         ·exact A.alive _ (by simp [hr''])
         ·exact A.alive _ (by simp [hr''])
         ·simp [hr0]
         ·simp [hr]
         ·exact A.alive _ (by simp [hr''])
        ·rw [e,e']
         simp only [yF]
         rw [k8]
         refine List.perm_iff_count.2 fun n=> ?_
         have:=A.blocks.count_eq n
         simp only [List.count_append,List.count_cons] at this ⊢
         omega
        ·rw [e]
         exact ⟨b0,b,_,v0,vs',rfl,rfl,k2,by rw [vQ];exact k7,by rw [vQ];exact .inl ⟨rfl,hv0⟩,by rw [xQ];exact A.rep ok' hk⟩
       ·simp at ho
      ·simp at ho
     ·rename_i f k R hr
      split at ho
      ·rename_i R'
       split at ho
       ·rename_i ls0 hR
        split at ho
        ·rename_i x rs0 hth
         cases hbr:Nat.beq R R' with
         |false=>rw [hbr] at ho;simp at ho
         |true=>
         rw [hbr] at ho
         simp only [cond_true] at ho
         obtain rfl:=Nat.eq_of_beq_eq_true hbr
         split at ho
         ·rename_i z g2 hz
          simp only [Option.some.injEq,Prod.mk.injEq] at ho
          obtain ⟨rfl,rfl⟩:=ho
          obtain ⟨G,Rs,A⟩:=zH9 h hz hfit.2 hl'
          obtain ⟨b0,b,bs,es,clock,k1,k2,k3,k4,k5,k6⟩:=yAp h hr0 hr
          obtain ⟨p,j1,j2,j3,j4⟩:=yQp h hR hth
          obtain ⟨q1,q2⟩:=k6.put (m':=m) j1 j2
          obtain ⟨k7,k8⟩:=zL6.of k5 q1
          obtain ⟨p',hp',rfl⟩:=hv0
          rw [j1] at hp';simp at hp';subst hp'
          obtain ⟨en,n1,n2,n3⟩:=k6.ents.pinned j1 (k6.pin k R rfl)
          have e:rts m (r0::r'::lent)=b0::b::rts m lent:=by simp [rts,xM k1,xM k3,zF.roots,zF.blocks]
          have e':zU m (r0::r'::lent)=b0::b::(bs++zU m lent):=by simp [zU,jL k1,jL k3,bk,zF.blocks]
          have e2:zU m ((R::rs0)++Rs)=(p::zU m rs0)++zU m Rs:=by simp [zU,jL j1,bk,zF.blocks]
          refine ⟨G,(R::rs0)++Rs, ?_,fun r'' hr''=> ?_, ?_,fun ok' hk=> ?_⟩
          ·exact (List.Perm.append_left ([r0,r',R]++rs0) A.perm).trans (by
            refine List.perm_iff_count.2 fun n=> ?_
            simp only [List.count_append,List.count_cons,List.count_nil]
            omega)
          ·simp only [List.mem_append,List.mem_cons] at hr''
           rcases hr'' with hr''|((rfl|hr'')|hr'')|rfl|rfl|hr''
           ·exact A.alive _ (by simp [hr''])
           ·simp [hR]
           ·exact j4 _ hr''
           ·exact A.alive _ (by simp [hr''])
           ·simp [hr0]
           ·simp [hr]
           ·exact A.alive _ (by simp [hr''])
          ·rw [e,e',e2]
           simp only [yF]
           rw [k8]
           rw [j3] at q2
           refine List.perm_iff_count.2 fun n=> ?_
           have h1:=A.blocks.count_eq n
           have h2:=q2.count_eq n
           simp only [List.count_append,List.count_cons] at h1 h2 ⊢
           omega
          ·rw [e]
           exact ⟨b0,b,_,_,vs',rfl,rfl,k2,by rw [vQ];exact k7,by rw [vQ];exact .inr ⟨k,es,clock,en,rfl,k5,n1,n2,n3⟩,by rw [xQ];exact A.rep ok' hk⟩
         ·simp at ho
        ·simp at ho
       ·simp at ho
      ·simp at ho
     ·simp at ho
    ·simp at ho
  by_cases hbo:∃fs,r= .backo fs
  ·obtain ⟨fs,rfl⟩:=hbo
   cases lent with
   |nil=>cases ls<;>simp [wS,zQk] at ho
   |cons q lent=>
    simp only [wS] at ho
    split at ho
    ·rename_i ms hq
     split at ho
     ·rename_i x gF lent2 hF
      split at ho
      ·rename_i z g2 hz
       cases ha:fs.any FK.isAls with
       |true=>rw [ha] at ho;simp at ho
       |false=>
       rw [ha] at ho
       simp only [cond_false,Option.some.injEq,Prod.mk.injEq] at ho
       obtain ⟨rfl,rfl⟩:=ho
       obtain ⟨i,q1,q2,q0⟩:=h.mem q _ hq
       cases i<;>simp only [yM] at q2
       rename_i b
       obtain ⟨us,e,q3,q4⟩:=q2
       obtain ⟨GF,RF,pre,EF⟩:=zUl h hF q4
       obtain ⟨G2,R2,A⟩:=zH9 h hz hfit hl
       have e1:rts m (q::lent)=b::rts m lent:=by simp [rts,xM q1,zF.roots,zF.blocks]
       have e2:zU m (q::lent)=b::zU m lent:=by simp [zU,jL q1,bk,zF.blocks]
       have e3:rts m lent=rts m pre++rts m lent2:=by rw [EF.spl,xOb]
       have e4:zU m lent=zU m pre++zU m lent2:=by rw [EF.spl,yCz]
       refine ⟨GF++G2,RF++R2, ?_,fun r' hr'=> ?_, ?_,fun ok' hk=> ?_⟩
       ·refine ((List.Perm.append EF.perm A.perm).cons q).trans (List.perm_iff_count.2 fun n=> ?_)
        rw [EF.spl]
        simp only [List.count_append,List.count_cons]
        omega
       ·rw [EF.spl] at hr'
        simp only [List.mem_append,List.mem_cons] at hr'
        rcases hr' with (hr'|hr')|(hr'|hr')|rfl|hr'|hr'
        ·exact EF.alive _ (by simp [hr'])
        ·exact A.alive _ (by simp [hr'])
        ·exact EF.alive _ (by simp [hr'])
        ·exact A.alive _ (by simp [hr'])
        ·simp [hq]
        ·exact EF.alive _ (by simp [hr'])
        ·exact A.alive _ (by simp [hr'])
       ·rw [e1,e2]
        simp only [yF,zLy q3,EF.rest,yCz]
        refine List.perm_iff_count.2 fun n=> ?_
        have h1:=EF.blocks.count_eq n
        have h2:=A.blocks.count_eq n
        rw [e4]
        simp only [List.count_append,List.count_cons] at h1 h2 ⊢
        have h3:(rts m lent).count n=(rts m pre).count n+(rts m lent2).count n:=by rw [e3,List.count_append]
        omega
       ·rw [e1]
        exact ⟨b,us,e,_,rfl,q3,by rw [vQ];exact EF.rep ok' hk.left,by rw [xQ,EF.rest];exact A.rep ok' hk.right⟩
      ·simp at ho
     ·simp at ho
    ·simp at ho
  by_cases hof:∃fs,r= .ofresho fs
  ·obtain ⟨fs,rfl⟩:=hof
   cases ls with
   |nil=>simp [wS] at ho
   |cons l ls=>
    obtain ⟨v,vs',rfl,h1,h2⟩:=hl
    simp only [List.all_cons,Bool.and_eq_true] at hfit
    simp only [wS] at ho
    split at ho
    ·split at ho
     ·rename_i z g2 hz
      simp only [Option.some.injEq,Prod.mk.injEq] at ho
      obtain ⟨rfl,rfl⟩:=ho
      obtain ⟨G2,R2,A⟩:=zH9 h hz hfit.2 h2
      simp only [zL] at h1;subst h1
      exact ⟨G2,R2,A.perm,A.alive,A.blocks,fun ok' hk=>⟨_,vs',rfl, .inl ⟨by rw [vQ],rfl⟩,by rw [xQ];exact A.rep ok' hk⟩⟩
     ·simp at ho
    ·rename_i q
     split at ho
     ·rename_i ms hq
      split at ho
      ·rename_i x gF lent2 hF
       split at ho
       ·rename_i z g2 hz
        cases ha:(Nat.ble zD q||fs.any FK.isDsk) with
        |true=>rw [ha] at ho;simp at ho
        |false=>
        rw [ha] at ho
        simp only [cond_false,Option.some.injEq,Prod.mk.injEq] at ho
        obtain ⟨rfl,rfl⟩:=ho
        simp only [Bool.or_eq_false_iff] at ha
        obtain ⟨i,q1,q2,q0⟩:=h.mem q _ hq
        cases i<;>simp only [yM] at q2
        rename_i b
        obtain ⟨us,e,q3,q4⟩:=q2
        obtain ⟨b',h1,rfl⟩:=h1
        rw [q1] at h1;simp at h1;subst h1
        obtain ⟨GF,RF,pre,EF⟩:=zUl h hF q4
        obtain ⟨G2,R2,A⟩:=zH9 h hz hfit.2 h2
        have hpre:=EF.nodsk ha.2
        subst hpre
        refine ⟨GF++G2,(q::RF)++R2, ?_,fun r' hr'=> ?_, ?_,fun ok' hk=>⟨_,vs',rfl, .inr ⟨x,b,us,e,by rw [vQ],rfl,ha.2,q3,EF.rep ok' hk.left⟩,by rw [xQ];exact A.rep ok' hk.right⟩⟩
        ·refine ((List.Perm.append EF.perm A.perm).cons q).trans (List.perm_iff_count.2 fun n=> ?_)
         simp only [List.count_append,List.count_cons,List.count_nil]
         omega
        ·simp only [List.mem_append,List.mem_cons] at hr'
         rcases hr' with (hr'|hr')|((rfl|hr')|hr')|hr'
         ·exact EF.alive _ (by simp [hr'])
         ·exact A.alive _ (by simp [hr'])
         ·simp [hq]
         ·exact EF.alive _ (by simp [hr'])
         ·exact A.alive _ (by simp [hr'])
         ·exact A.alive _ (by simp [hr'])
        ·have e2:zU m ((q::RF)++R2)=(b::zU m RF)++zU m R2:=by simp [zU,jL q1,bk,zF.blocks]
         rw [e2]
         simp only [yF,yYr,zLy q3]
         refine List.perm_iff_count.2 fun n=> ?_
         have h1:=EF.blocks.count_eq n
         have h2:=A.blocks.count_eq n
         simp only [rts,zU,List.flatMap_nil,List.append_nil] at h1
         simp only [List.count_append,List.count_cons] at h1 h2 ⊢
         simp only [rts,zU] at h2 ⊢
         omega
       ·simp at ho
      ·simp at ho
     ·simp at ho
    ·simp at ho
  ·have hnb:r.plain:=by
    cases r<;>first|trivial|(exfalso;simp_all)
   cases ls with
   |nil=>
    cases r
    case back t=>exact hnb.elim
    case backp t=>exact hnb.elim
    case backd=>exact hnb.elim
    case find=>exact hnb.elim
    case backo t=>exact hnb.elim
    case ofresho t=>exact hnb.elim
    all_goals (cases lent<;>simp [wS] at ho)
   |cons l ls=>
    obtain ⟨v,vs',rfl,h1,h2⟩:=hl
    have ho':∃x g1 z g2,zQk s r l=some (x,g1)∧wS s rs ls lent=some (z,g2)∧y=RD.mk (k:=r) x z∧g=g1++g2:=by
     cases r
     case back t=>exact hnb.elim
     case backp t=>exact hnb.elim
     case backd=>exact hnb.elim
     case find=>exact hnb.elim
     case backo t=>exact hnb.elim
     case ofresho t=>exact hnb.elim
     all_goals
      simp only [wS] at ho
      split at ho
      ·rename_i x g1 hx
       split at ho
       ·rename_i z g2 hz
        simp only [Option.some.injEq,Prod.mk.injEq] at ho
        obtain ⟨rfl,rfl⟩:=ho
        exact ⟨x,g1,z,g2,hx,hz,rfl,rfl⟩
       ·simp at ho
      ·simp at ho
    obtain ⟨x,g1,z,g2,hx,hz,rfl,rfl⟩:=ho'
    simp only [List.all_cons,Bool.and_eq_true] at hfit
    obtain ⟨G1,R1,A⟩:=xPt h hx hfit.1 h1
    obtain ⟨G2,R2,B⟩:=zH9 h hz hfit.2 h2
    refine ⟨G1++G2,R1++R2,(List.Perm.append A.perm B.perm).trans (xO1 _ _ _ _ _),fun r' hr'=> ?_, ?_,fun ok' hk=> ?_⟩
    ·simp only [List.mem_append] at hr'
     rcases hr' with (hr'|hr')|(hr'|hr')|hr'
     ·exact A.alive r' (by simp [hr'])
     ·exact B.alive r' (by simp [hr'])
     ·exact A.alive r' (by simp [hr'])
     ·exact B.alive r' (by simp [hr'])
     ·exact B.alive r' (by simp [hr'])
    ·rw [A.blocks]
     refine List.perm_iff_count.2 fun n=> ?_
     have:=B.blocks.count_eq n
     have e:zU m (R1++R2)=zU m R1++zU m R2:=by simp [zU]
     rw [e]
     simp only [List.count_append] at this ⊢
     omega
    ·exact xOo hnb (A.rep ok' hk.left) (B.rep ok' hk.right)
theorem xNp (h:Rel P E m s a w) {tab:Tab} (hT:vI P tab) {v:ResultVar} {l:L} (hr:yVx tab s v=some l):∃u,(match v with
 | .tmp t=>pure (a.tmps.getD t undef)
 | .cell b t=>do loadVar t (←asAddr (a.tmps.getD b undef)):Sem Value).run P w= .ok u w∧zL P w (zK E m s.mem w) m l u:=by
 cases v with
 |tmp t=>simp only [yVx,Option.some.injEq] at hr;subst hr;exact ⟨_,rfl,h.env t⟩
 |cell b t=>
  simp only [yVx] at hr
  split at hr
  ·rename_i i r off hi hb
   split at hr
   ·rename_i ls hls
    have hv:=h.env b
    rw [hb] at hv
    obtain ⟨bl,h1,h2⟩:=hv
    obtain ⟨j,h3,h4,_⟩:=h.mem r _ hls
    rw [h1] at h3;simp at h3;subst h3
    obtain ⟨us,e,h5,h6⟩:=h4
    have he:Ev (zHm i ls off) s.mem l:=by
     unfold zHm
     cases ha:i.isAgg with
     |true=>
      rw [ha] at hr
      simp only [cond_true] at hr ⊢
      cases hb2:Nat.ble (off+i.size) ls.length with
      |true=>rw [hb2] at hr;simp at hr;subst hr;exact zC.2 rfl
      |false=>rw [hb2] at hr;simp at hr
     |false=>
      rw [ha] at hr
      simp only [cond_false] at hr ⊢
      rw [hr]
      exact zC.2 rfl
    obtain ⟨u,hu,hru⟩:=zMi (o:=0) (hT _ _ hi) h5 h6 (fun j v hv=>by simpa using hv) he
    refine ⟨u, ?_,hru⟩
    show (do loadVar t (←asAddr (a.tmps.getD b undef)):Sem Value).run P w=_
    rw [h2]
    simp only [Nat.zero_add] at hu
    simp [asAddr,hu]
   ·simp at hr
  ·simp at hr
theorem yW8 (h:Rel P E m s a w) {tab:Tab} (hT:vI P tab):∀ {l:List ResultVar} {ls:List L},zJi tab s l=some ls→∃us,(l.mapM fun v=>(match v with
 | .tmp t=>pure (a.tmps.getD t undef)
 | .cell b t=>do loadVar t (←asAddr (a.tmps.getD b undef)):Sem Value)).run P w= .ok us w∧zR P w (zK E m s.mem w) m ls us
 | [],ls,hr=>by simp only [zJi,Option.some.injEq] at hr;subst hr;exact ⟨[],rfl,rfl⟩
 |v::l,ls,hr=>by
  simp only [zJi] at hr
  split at hr
  ·simp at hr
  ·rename_i l1 h1
   split at hr
   ·simp at hr
   ·rename_i ls1 h2
    simp only [Option.some.injEq] at hr;subst hr
    obtain ⟨u,hu,hru⟩:=xNp h hT h1
    obtain ⟨us,hus,hrus⟩:=yW8 h hT h2
    exact ⟨u::us,by simp only [List.mapM_cons,Sem.run_bind,hu,Result.andThen_ok,hus,Sem.run_pure],u,us,rfl,hru,hrus⟩
theorem xN8 (h:Rel P E m s a w) {tab:Tab} (hT:vI P tab) {fn:Func} {ls:List L} (hr:zJi tab s fn.results.toList=some ls):
 ∃us,(results fn a.tmps).run P w= .ok (yQc us) w∧zR P w (zK E m s.mem w) m ls us:=by
 obtain ⟨us,h1,h2⟩:=yW8 h hT hr
 refine ⟨us, ?_,h2⟩
 unfold results
 rw [Array.mapM_eq_mapM_toList]
 simp only [Sem.run_bind,Sem.run_map]
 have h1':=h1
 erw [h1']
 simp only [Result.andThen_ok,Sem.run_pure]
 match us with
 | []=>rfl
 | [v]=>rfl
 |v::u::us=>simp [yQc]
theorem xE8 {m m':zO}:∀ {rs:List Nat},(∀r∈rs,rt m r=rt m' r)→rts m rs=rts m' rs
 | [],_=>rfl
 |r::rs,h=>by
  have:=xE8 (rs:=rs) fun r' hr'=>h r' (by simp [hr'])
  simp only [rts,List.flatMap_cons] at this ⊢
  rw [this,h r (by simp)]
theorem yMh {E:xI} {fn:Func} {R:Ending→World→Prop} {n:Nat} (hlow:E.low=E.w0.heap.size):∀(Ds:List Nat) {m:zO} {s:St} {a:Act} {w:World},Rel P E m s a w→a.defers=Ds.map (fun D=> {target:= .collected D,args:= #[]})→Ds.Nodup→
 (∀D∈Ds,(zK E m s.mem w D∧E.low≤D)∧w.heap[D]? =some (.deferred (some [])))→(∀a2 w2,a2.tmps=a.tmps→Rel P E m s a2 w2→∃v,(results fn a2.tmps).run P w2= .ok v w2∧R (.returned v) w2)→
 LeavesInM Fence.wide n P fn a.tmps R a.defers .returning w
 | [],m,s,a,w,h,hd,_,_,hmain=>by
   rw [hd]
   exact hmain a w rfl h
 |D::Ds,m,s,a,w,h,hd,hn,hm,hmain=>by
  rw [hd]
  obtain ⟨⟨hok,hlo⟩,hh⟩:=hm D (List.mem_cons_self ..)
  have hn':=List.nodup_cons.1 hn
  have hne:∀b,b≠D→(w.putObj D (.deferred none)).heap[b]? =w.heap[b]? :=fun b hb=>World.putObj_heap_other hb
  refine ⟨by simp, .inl ⟨D,_,rfl,run_takeDeferred hh, ?_⟩⟩
  have hr:Rel P E m s {a with defers:=Ds.map (fun D=> {target:= .collected D,args:= #[]})} (w.putObj D (.deferred none)):=by
   refine h.shiftK (fun b hb=>⟨⟨by rw [World.putObj_size];exact hb.1,hb.2.1,hb.2.2⟩,fun C e fr hc=> ?_⟩) (fun b hb=> ?_) rfl ⟨h.goes.os,h.goes.tape,h.goes.output,by rw [World.putObj_size];exact h.goes.size,fun b hb hv=> ?_⟩ (fun t=> .inr rfl) h.size ?_ h.keep
   ·by_cases e':b=D
    ·subst e';rw [hh] at hc;cases hc
    ·rw [hne b e'];exact hc
   ·have hbD:b≠D:=fun e'=>by subst e';exact hok.2.2 hb
    obtain ⟨r,c,i,h1,h2,h3⟩:=hb
    obtain ⟨i',h4,_,h5⟩:=h.mem r c h1
    rw [h2] at h4
    obtain rfl:=Option.some.inj h4
    exact ⟨by rw [World.putObj_size];exact (h5 b h3).1,(h5 b h3).2,hne b hbD⟩
   ·rw [hne b (by omega)];exact h.goes.block b hb hv
   ·refine ⟨Ds,rfl,hn'.2,fun D' hD'=> ?_⟩
    obtain ⟨⟨h1,h2⟩,h3⟩:=hm D' (List.mem_cons_of_mem _ hD')
    refine ⟨⟨⟨by rw [World.putObj_size];exact h1.1,h1.2.1,h1.2.2⟩,h2⟩,(hne D' fun e'=>hn'.1 (e'▸hD')).trans h3⟩
  have:=yMh (n:=n) (fn:=fn) (R:=R) hlow Ds hr rfl hn'.2 (fun D' hD'=> ?_) (fun a2 w2 e2 hr2=>hmain a2 w2 e2 hr2)
  ·exact this
  ·obtain ⟨⟨h1,h2⟩,h3⟩:=hm D' (List.mem_cons_of_mem _ hD')
   exact ⟨⟨⟨by rw [World.putObj_size];exact h1.1,h1.2.1,h1.2.2⟩,h2⟩,(hne D' fun e'=>hn'.1 (e'▸hD')).trans h3⟩
theorem zG {tab:Tab} (hT:vI P tab) {Γ:Env} (hΓ:zCy P Γ) (hm:P.follows .mixedOrders=true) {f:FuncId} {fn:Func} {c:Code} {sp:zE} {Λ:zV} (hf:P.funcs[f]? =some fn) (hb:fn.body=some c) (hname:fn.name≠ "runtime.NumGoroutine")
 (hN:sp.ps.length≤fn.ntmps) (hl:sp.ps.length≤1000) (hreg:jI fn.ntmps c=true) (hparts:zN tab Γ Λ 0 c) (hfunc:zT tab Γ Λ fn c sp):zQ P f sp:=by
 refine ⟨⟨fn,hf,hname,by rw [hb];rfl⟩,fun k x y hy w ok0 vals hok htb hp hnd hpb=> ?_⟩
 have hfi:yG.fine w fun b=>ok0 b∧¬b∈xJ w sp.ps vals:=htb.mono fun b hb=>⟨hb,fun hp=>(hpb b hp).2 hb⟩
 have hlen:vals.length=sp.ps.length:=(xBt (j:=0) hp (by omega)).len
 have A:=xBt (P:=P) (w:=w) (j:=0) hp (by omega)
 refine callsIn_wide.1 (callsIn_of_wp_marks (F:=Fence.wide) (n:=0) hf hb trivial ?_)
 rw [hfunc k x] at hy
 refine zC4 hT hΓ hm c 0 hparts k 0 none (yHe w ok0 sp.ps vals fn.ntmps hfi) hreg (fun _ _=>rfl) (.inl rfl) hy ⟨_,xPe hok hp hl hN (List.nodup_append.1 hnd).1 hpb hfi⟩ (fun a w h=>by obtain ⟨vs,h,_⟩:=h;cases h) ?_
 rintro e s0 a0 w0' hfin ⟨m0,h0⟩
 obtain ⟨m,hrel⟩:∃m,Rel P (yHe w ok0 sp.ps vals fn.ntmps hfi) m (cond (sp.rs.any RK.isFind) s0 (yNt s0 (yIc sp.ps 0++(zZc s0 sp.ps 0++yIs s0 fn.results.toList)))) a0 w0':=by
  cases sp.rs.any RK.isFind with
  |true=>exact ⟨m0,h0⟩
  |false=>exact yMm h0
 unfold xQk at hfin
 generalize cond (sp.rs.any RK.isFind) s0 (yNt s0 (yIc sp.ps 0++(zZc s0 sp.ps 0++yIs s0 fn.results.toList)))=s at hrel hfin
 have done:∀a' w',Rel P (yHe w ok0 sp.ps vals fn.ntmps hfi) m s a' w'→zJi tab s fn.results.toList=none∨(∃ls,zJi tab s fn.results.toList=some ls∧∃g,wS s sp.rs ls (wU sp.ps 0)=some (y,g)∧nodup g=true∧ls.all (yEj s)=true)→e≠ .exit 0→(zJi tab s fn.results.toList≠none)→
  ∃v,(results fn a'.tmps).run P w'= .ok v w'∧∃vs,Ending.returned v= .returned (yQc vs)∧kV (· ∈xJ w sp.ps vals) w w'∧(yF w' sp.rs vs (xP w sp.ps vals)++xP w sp.ps vals).Nodup∧
   (∀b∈yF w' sp.rs vs (xP w sp.ps vals),b<w'.heap.size∧(b∈xJ w sp.ps vals∨w.heap.size≤b))∧
   vM w' (fun b=>b<w'.heap.size∧(ok0 b∨b∈xJ w sp.ps vals∨w.heap.size≤b)∧b∉yF w' sp.rs vs (xP w sp.ps vals)++xP w sp.ps vals) sp.rs y vs (xP w sp.ps vals):=by
  rintro a' w' h (hnone|⟨ls,hls,g,ho,hg,hfit⟩) _ hsome
  ·exact absurd hnone hsome
  obtain ⟨vs,h1,h2⟩:=xN8 h hT hls
  obtain ⟨G,Rs,B⟩:=zH9 h ho hfit h2
  have hgn:(G++(Rs++wU sp.ps 0)).Nodup:=B.perm.nodup_iff.1 (nodup_iff hg)
  have hgd:=List.nodup_append.1 hgn
  have hlb:rts m (wU sp.ps 0)=xP w sp.ps vals:=by
   rw [←A.lents (look (zY w sp.ps 0 vals)) (yYv A.nodup)]
   have key:∀r∈wU sp.ps 0,rt m r=rt (look (zY w sp.ps 0 vals)) r:=by
    intro r hr
    have hbase:zD≤r:=by
     have:∀(ps:List PK) (j r:Nat),r∈wU ps j→zD≤r:=by
      intro ps
      induction ps with
      |nil=>intro j r hr;simp [wU] at hr
      |cons p ps ih=>
       intro j r hr
       cases p<;>simp only [wU,List.mem_cons] at hr
       case lent t=>
        rcases hr with rfl|hr
        ·omega
        ·exact ih _ _ hr
       case lentp t=>
        rcases hr with rfl|rfl|hr
        ·simp only [zD];omega
        ·omega
        ·exact ih _ _ hr
       case disk=>
        rcases hr with rfl|rfl|hr
        ·simp only [zD];omega
        ·omega
        ·exact ih _ _ hr
       case lento fs=>
        rw [List.mem_append] at hr
        rcases hr with rfl|hr|hr
        ·simp only [zD];omega
        ·have fr:∀(fs:List FK) (r:Nat),r∈zXz j fs→zD≤r:=by
          intro fs
          induction fs with
          |nil=>intro r hr;simp [zXz] at hr
          |cons f fs ihf=>
           intro r hr
           cases f<;>simp only [zXz,List.mem_cons] at hr
           case dsk=>
            rcases hr with rfl|rfl|hr
            ·simp only [zD];omega
            ·omega
            ·exact ihf _ hr
           all_goals exact ihf _ hr
         exact fr fs r hr
        ·exact ih _ _ hr
       all_goals exact ih _ _ hr
     exact this _ _ _ hr
    obtain ⟨b,h3,h4⟩:=h.lent r (B.alive r (by simp [hr])) hbase
    simp only [yHe] at h3
    have h4':rt m r= [b]:=by
     rcases h4 with h4|⟨bs,h4⟩<;>simp [xM h4,zF.roots,zF.blocks]
    split at h3
    ·rename_i b' hb'
     simp at h3;subst h3
     rw [h4',xM hb'];rfl
    ·rename_i b' bs' hb'
     simp at h3;subst h3
     rw [h4',xM hb'];rfl
    ·simp at h3
   exact xE8 key
  have alive2:∀r∈Rs++wU sp.ps 0,(s.mem r).isSome:=fun r hr=>B.alive r (List.mem_append_right _ hr)
  have hblk:(yF w' sp.rs vs (xP w sp.ps vals)++xP w sp.ps vals).Perm (zU m (Rs++wU sp.ps 0)):=by
   have e:zU m (Rs++wU sp.ps 0)=zU m Rs++zU m (wU sp.ps 0):=by simp [zU]
   rw [e,←hlb];exact B.blocks
  refine ⟨_,h1,vs,rfl,h.goes,hblk.nodup_iff.2 (h.blks_nodup hgd.2.1 alive2),fun b hb=> ?_, ?_⟩
  ·have hb:=hblk.mem_iff.1 (List.mem_append.2 (.inl hb))
   obtain ⟨r,hr,i,hi,hbk⟩:=zB0 hb
   obtain ⟨c',hc'⟩:=Option.isSome_iff_exists.1 (alive2 r hr)
   obtain ⟨i',h3,_,h5⟩:=h.mem r c' hc'
   rw [hi] at h3;simp at h3;subst h3
   exact h5 b hbk
  ·have hm':∀n,n∉yF w' sp.rs vs (xP w sp.ps vals)++xP w sp.ps vals↔n∉zU m (Rs++wU sp.ps 0):=fun n=>by rw [hblk.mem_iff]
   simp only [hm']
   rw [←hlb]
   refine B.rep _ ⟨fun b hb=>⟨hb.1,hb.2.1,fun hh=> ?_⟩,fun r hr i b hi hbk=> ?_⟩
   ·obtain ⟨r,hr,i,hi,hbk⟩:=zB0 hh
    obtain ⟨c',hc'⟩:=Option.isSome_iff_exists.1 (alive2 r hr)
    exact hb.2.2 ⟨r,c',i,hc',hi,hbk⟩
   ·obtain ⟨c',hc'⟩:=Option.isSome_iff_exists.1 (B.alive r (by simp [hr]))
    obtain ⟨i',h3,_,h5⟩:=h.mem r c' hc'
    rw [hi] at h3;simp at h3;subst h3
    refine ⟨(h5 b hbk).1, .inr (h5 b hbk).2,fun hh=> ?_⟩
    obtain ⟨r',hr',i',hi',hbk'⟩:=zB0 hh
    obtain ⟨c'',hc''⟩:=Option.isSome_iff_exists.1 (alive2 r' hr')
    have:=h.inj r r' c' c'' i i' b hc' hc'' hi hi' hbk hbk'
    subst this
    exact hgd.2.2 r hr r hr' rfl
 have fin:∀ {o:Option (RD RK.den sp.rs)},o=some y→o=(match zJi tab s fn.results.toList with
  |none=>none
  |some ls=>cond (ls.all (yEj s)) (match wS s sp.rs ls (wU sp.ps 0) with
   |none=>none
   |some (y,g)=>cond (nodup g) (some y) none) none)→∃ls,zJi tab s fn.results.toList=some ls∧∃g,wS s sp.rs ls (wU sp.ps 0)=some (y,g)∧nodup g=true∧ls.all (yEj s)=true:=by
  intro o ho he
  rw [ho] at he
  split at he
  ·simp at he
  ·rename_i ls hls
   cases hfit:ls.all (yEj s) with
   |false=>rw [hfit] at he;simp at he
   |true=>
   rw [hfit] at he
   simp only [cond_true] at he
   split at he
   ·simp at he
   ·rename_i y' g hg
    cases hn:nodup g with
    |false=>rw [hn] at he;simp at he
    |true=>rw [hn] at he;simp at he;subst he;exact ⟨ls,hls,g,hg,hn,hfit⟩
 cases e with
 |exit id=>simp [xMj] at hfin
 |normal=>
  have hx:=fin hfin rfl
  obtain ⟨ls,hls,hrest⟩:=hx
  obtain ⟨Ds,q1,q2,q3⟩:=hrel.defers
  exact yMh rfl Ds hrel q1 q2 q3 fun a2 w2 _ hr2=>done a2 w2 hr2 (.inr ⟨ls,hls,hrest⟩) (by simp) (by simp [hls])
 |ret=>
  have hx:=fin hfin rfl
  obtain ⟨ls,hls,hrest⟩:=hx
  obtain ⟨Ds,q1,q2,q3⟩:=hrel.defers
  exact yMh rfl Ds hrel q1 q2 q3 fun a2 w2 _ hr2=>done a2 w2 hr2 (.inr ⟨ls,hls,hrest⟩) (by simp) (by simp [hls])
end
end Go.GG
