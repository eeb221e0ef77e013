/- A part of our own proof. -/
import Derived.Test.YtlhifcknhgmidaaGreatDoorK5
import Derived.Test.YtlhifcknhgmidaaGreatDoorAtoiI
import Derived.Test.YtlhifcknhgmidaaGreatDoorProg
import Derived.KernelRfl
import Derived.WalkKit
import Derived.OwnWalkIn
import Derived.TacticsInMore
import Derived.RegionIn
import Derived.LoopNIn
import Derived.LoopIn
import Derived.RangeFuncMany
import Derived.Shelf.RegionOpen
namespace Go.GG
open Go Go.RowKit Go.Proofs
set_option linter.unusedVariables false
set_option maxRecDepth 100000 in
set_option maxHeartbeats 1000000 in
theorem xGa (A:Option Addr) (n c:Nat) (w:World):Calls Tryz.prog 29 #[.slice A n c] w fun e w'=>e= .returned (.func (.func 64) #[] #[.pointer (some ⟨w.heap.size,0,none⟩)])∧w'=w.alloc (.cells #[.slice A n c] 46):=by
 refine (callsIn_wide (n:=0)).1 (callsIn_of_wp Tryz.func29 rfl trivial ?_ rfl)
 simp only [Tryz.ntmps29,List.size_toArray,List.length_cons,List.length_nil,Nat.reduceAdd,Nat.reduceSub,Array.replicate_succ,Array.replicate_zero,List.push_toArray,List.append_toArray,List.nil_append,List.cons_append]
 gi_wp2
 go_ret
 exact ⟨rfl,rfl⟩
theorem xF9 [yG]:zQ Tryz.prog 29 ⟨[.imm (.slice zNi)], [.imm (.box 64 (.slice zNi))],fun _ x=>some x⟩:=by
 refine ⟨⟨_,Tryz.func29,by decide+kernel,by kernel_rfl⟩, ?_⟩
 intro k (x:List zNi.den) y hF w ok0 vals hok htb hp _ _
 have hF:some x=some y:=hF
 obtain rfl:=Option.some.inj hF
 obtain ⟨v,vs,rfl,hv,hvs⟩:=hp
 obtain rfl:vs= []:=hvs
 have hv:(T.slice zNi).holds w ok0 x [v]:=hv
 have hv':=hv
 simp only [T.holds] at hv'
 obtain ⟨A,c,h1,_⟩:=hv'
 simp only [List.cons.injEq,and_true] at h1
 subst h1
 refine (xGa A x.length c w).mono ?_
 rintro e w' ⟨rfl,rfl⟩
 refine ⟨[.func (.func 64) #[] #[.pointer (some ⟨w.heap.size,0,none⟩)]],rfl,kV.of_below ((Below.refl _ w).alloc (Nat.le_refl _) _),List.nodup_nil,by simp [yF], ?_⟩
 refine ⟨_, [],rfl, ?_,rfl,rfl⟩
 show (T.box 64 (.slice zNi)).holds _ _ x _
 simp only [T.holds]
 refine ⟨w.heap.size, #[.slice A x.length c],46,(0,0), [.slice A x.length c],rfl,⟨by rw [World.size_alloc];omega, .inr (.inr (Nat.le_refl _)),by simp [yF,xP]⟩,World.alloc_heap_new w _, ?_,fun j u hj=>by simpa using hj⟩
 have:=T.holds_mono (t:= .slice zNi) (w':=w.alloc (.cells #[.slice A x.length c] 46)) (ok':=fun b=>b<(w.alloc (.cells #[.slice A x.length c] 46)).heap.size∧(ok0 b∨b∈xJ w [.imm (.slice zNi)] [.slice A x.length c]∨w.heap.size≤b)∧b∉yF (w.alloc (.cells #[.slice A x.length c] 46)) [.imm (.box 64 (.slice zNi))] [.func (.func 64) #[] #[.pointer (some ⟨w.heap.size,0,none⟩)]] (xP w [.imm (.slice zNi)] [.slice A x.length c])++xP w [.imm (.slice zNi)] [.slice A x.length c]) (zS.of fun b hb=>⟨⟨by rw [World.size_alloc];have:=hok b hb;omega, .inl hb,by simp [yF,xP]⟩,Below.heap_alloc w _ b (hok b hb)⟩) hv
 simpa only [T.holds] using this
set_option maxRecDepth 100000 in
set_option maxHeartbeats 2000000 in
theorem xU4 (l b:Nat) (ok:Nat→Prop) (xs:List zNi.den) (J:Nat→World→Prop) (W:World) (hlen:xs.length≤4611686018427387904)
 (h1:∀i W,J i W→(T.box 64 (.slice zNi)).holds W ok xs [.func (.func 64) #[] #[.pointer (some ⟨b,0,none⟩)]]) (h2:∀i W d,J i W→J i {W with drawn:=d})
 (h3:∀i x W cs,xs[i]? =some x→J (i+1) W→zNi.holds W ok x cs→YieldAt Fence.wide 0 Tryz.prog l #[.int .i64 i, .agg cs.toArray] W fun e W'=>e= .returned (.bool true)∧J i W') (h0:J xs.length W):
 Calls Tryz.prog 64 #[.func (.yield l) #[] #[], .pointer (some ⟨b,0,none⟩)] W fun e W'=>(∃v,e= .returned v)∧J 0 W':=by
 have hbox:∀i W,J i W→∃A c,xs.length≤c∧W.cell? ⟨b,0,none⟩=some (.slice A xs.length c)∧∀j (hj:j<xs.length),∃b' off C e fr cs,A=some ⟨b',off,none⟩∧W.heap[b']? =some (.cells C e fr)∧zNi.holds W ok xs[j] cs∧∀(q:Nat) u,cs[q]? =some u→C[off+j*3+q]? =some u:=by
  intro i W hJ
  have h:=h1 i W hJ
  simp only [T.holds] at h
  obtain ⟨b0,C,e,fr,ds,e1,hb,hh,⟨A,c,rfl,hc,hx⟩,hj⟩:=h
  simp at e1
  subst e1
  have hc0:=hj 0 _ rfl
  refine ⟨A,c,hc,by simp [World.cell?,hh,hc0],fun j hjl=> ?_⟩
  rcases hx with ⟨hnil,_⟩|⟨b',off,C',e',fr',rfl,hb',hh',hel⟩
  ·rw [hnil] at hjl;simp at hjl
  ·obtain ⟨cs,hcs,hcc⟩:=hel j _ (List.getElem?_eq_getElem hjl)
   exact ⟨b',off,C',e',fr',cs,rfl,hh',by simpa only [T.holds] using hcs,hcc⟩
 refine (callsIn_wide (n:=0)).1 (callsIn_of_wp Tryz.func64 rfl trivial ?_ rfl)
 simp only [Tryz.ntmps64,List.size_toArray,List.length_cons,List.length_nil,Nat.reduceAdd,Nat.reduceSub,Array.replicate_succ,Array.replicate_zero,List.push_toArray,List.append_toArray,List.nil_append,List.cons_append]
 obtain ⟨A,c,hc,hcell,_⟩:=hbox _ W h0
 gi_wp2
 gi_loopw [3] (fun vi wr=>∃i:Nat,i≤xs.length∧vi= .int .i64 ((i:Int)-1)∧J i wr) (fun vi _=>(RowKit.intOf vi+1).toNat)
 case atStart=>exact ⟨xs.length,Nat.le_refl _,by first|rfl|go_num,h0⟩
 case round=>
  obtain ⟨i,hi,rfl,hJ⟩:=hrel
  cases i with
  |zero=>
   gi_wp2
   go_end0
   exact ⟨⟨_,rfl⟩,hJ⟩
  |succ i=>
   have ei:((i+1:Nat):Int)-1=(i:Int):=by omega
   rw [ei]
   obtain ⟨A2,c2,hc2,hcell2,hel⟩:=hbox _ wr hJ
   obtain ⟨b',off,C,e,fr,cs,rfl,hb',hcs,hcc⟩:=hel i (by omega)
   have hlen3:cs.length=3:=T.holds_len hcs
   obtain ⟨u0,u1,u2,rfl⟩:∃u0 u1 u2,cs= [u0,u1,u2]:=by
    match cs,hlen3 with
    | [u0,u1,u2],_=>exact ⟨u0,u1,u2,rfl⟩
   have hc0:wr.cell? ⟨b',off+i*3,none⟩=some u0:=by rw [yCh hb'];exact hcc 0 _ rfl
   have hc1:wr.cell? ⟨b',off+i*3+1,none⟩=some u1:=by rw [yCh hb'];exact hcc 1 _ rfl
   have hc2':wr.cell? ⟨b',off+i*3+2,none⟩=some u2:=by rw [yCh hb'];exact hcc 2 _ rfl
   obtain ⟨fn,tmps,assign,body,hy,hR⟩:=h3 i _ wr [u0,u1,u2] (List.getElem?_eq_getElem (by omega:i<xs.length)) hJ hcs
   clear hcc hel hbox
   gi_wp2
   refine ⟨rfl,hR.mono ?_⟩
   rintro ex W3 ⟨rfl,hJ3⟩
   gi_wp2
   go_roundw
   case rel=>exact ⟨i,by omega,by first|rfl|go_num,hJ3⟩
   case measure=>simp [RowKit.intOf]
theorem xIm:zUo Tryz.prog 64 ⟨[.iter zNi], [],fun _ _=>none⟩:=⟨⟨_,Tryz.func64,by decide+kernel,by kernel_rfl⟩, .inr (.inr (.inr (.inr ⟨zNi, [],_,rfl,fun l b ok xs J W hlen h1 h2 h3 h0=>xU4 l b ok xs J W hlen h1 h2 h3 h0⟩)))⟩
set_option maxRecDepth 100000 in
set_option maxHeartbeats 2000000 in
theorem xVn (w:World) (q:Nat) (a:Addr) (cap:Nat) (A:Option Addr) (e:TypeId) (hq:w.heap[q]? =some (.cells #[.pointer (some a), .slice A 0 cap] e (0,0))):
 Calls Tryz.prog 36 #[.pointer (some ⟨q,0,none⟩)] w fun e w'=>e= .returned (.pointer none)∧Below w.heap.size w w':=by
 have hc:w.cell? ⟨q,1,none⟩=some (.slice A 0 cap):=by simp [World.cell?,hq]
 refine (callsIn_wide (n:=0)).1 (callsIn_of_wp Tryz.func36 rfl trivial ?_ rfl)
 simp only [Tryz.ntmps36,List.size_toArray,List.length_cons,List.length_nil,Nat.reduceAdd,Nat.reduceSub,Array.replicate_succ,Array.replicate_zero,List.push_toArray,List.append_toArray,List.nil_append,List.cons_append]
 gi_wp2
 go_ret
 exact ⟨rfl,Below.refl _ _⟩
set_option maxRecDepth 100000 in
set_option maxHeartbeats 2000000 in
theorem xVo (w:World) (q:Nat) (a:Addr) (b off n cap:Nat) (C:Array Value) (e e':TypeId) (A:Option Addr) (hq:w.heap[q]? =some (.cells #[.pointer (some a), .slice (some ⟨b,off,none⟩) (n+1) cap] e (0,0)))
 (hn:n+1≤4611686018427387904) (hcap:n+1≤cap) (hb:w.heap[b]? =some (.cells C e' (0,0))) (hl:C[off+n]? =some (.pointer A)):
 Calls Tryz.prog 36 #[.pointer (some ⟨q,0,none⟩)] w fun e w'=>e= .returned (.pointer A)∧Below w.heap.size w w':=by
 have hc:w.cell? ⟨q,1,none⟩=some (.slice (some ⟨b,off,none⟩) (n+1) cap):=by simp [World.cell?,hq]
 have hc2:w.cell? ⟨b,off+n,none⟩=some (.pointer A):=by simp [World.cell?,hb,hl]
 refine (callsIn_wide (n:=0)).1 (callsIn_of_wp Tryz.func36 rfl trivial ?_ rfl)
 simp only [Tryz.ntmps36,List.size_toArray,List.length_cons,List.length_nil,Nat.reduceAdd,Nat.reduceSub,Array.replicate_succ,Array.replicate_zero,List.push_toArray,List.append_toArray,List.nil_append,List.cons_append]
 have mixed:Tryz.prog.follows .mixedOrders=true:=by kernel_rfl
 gi_wp2
 gi_region
 gi_wp2
 go_ret
 exact ⟨rfl,⟨rfl,rfl,rfl,Nat.le_refl _,fun _ _=>rfl⟩⟩
theorem xLu:zUo Tryz.prog 36 ⟨[.wend], [],fun _ _=>none⟩:=
 ⟨⟨_,Tryz.func36,by decide+kernel,by kernel_rfl⟩, .inr (.inr (.inr (.inl ⟨[],_,rfl,fun w q a u e hq=>⟨fun cap A hu=>by subst hu;exact xVn w q a cap A e hq,fun b off n cap C e' A hu hn hcap hb _ hl=>by subst hu;exact xVo w q a b off n cap C e e' A hq hn hcap hb hl⟩⟩)))⟩
end Go.GG
