/- Calls: the operation. -/
import Derived.Test.YtlgfmkccnljhoaaC16
namespace Go.GG
open Go.RowKit
section
variable {P : Program} {E : Entry} {m : IMap} {s : St} {a : Act} {w : World}

theorem oneOrTup_rep {ok : Nat → Prop} {ls : List L} {vs : List Value} (h : LReps P w ok m ls vs) : LRep P w ok m (oneOrTup ls) (valOf vs) := by
  match ls, vs, h with
  | [], _, h => simp only [LReps] at h; subst h; exact ⟨[], rfl, rfl⟩
  | [l], _, h =>
    obtain ⟨v, vs', rfl, h1, h2⟩ := h
    simp only [LReps] at h2; subst h2
    exact h1
  | l :: l' :: ls, _, h =>
    obtain ⟨v, vs', rfl, h1, v', vs'', rfl, h2⟩ := h
    exact ⟨_, rfl, v, _, rfl, h1, v', vs'', rfl, h2⟩
theorem spec_calls (h : Rel P E m s a w) {Γ : Env} (hΓ : EnvOk P Γ) {f : FuncId} {sp : FSpec} (hs : SpecOk P f sp) {k dst : Nat} {ls : List L} {vals : List Value} {res : Res} {d : Option Nat}
    (he : Ev (callSpec Γ k sp dst ls) s.mem res) (hl : LReps P w (okOf E m s.mem w) m ls vals) (hal : ∀ id ∈ res.allocs, s.used id = false ∧ id < lentBase) (hd : ∀ n, d = some n → n < E.N) :
    Calls P f vals.toArray w fun e w' => ∃ v, e = .returned v ∧ Rel' P E (apply s d res) (a.put d v) w' := by
  simp only [callSpec, ev_bind, ev_assume, ev_opt, ev_pure] at he
  obtain ⟨x, hx, hn, y, hy, b, hb, hids, rfl⟩ := he
  have ha := hand_all h hΓ (sh := x.shown) hx (fun _ hr => hr) hl
  have hnd := nodup_iff hn
  have hr := (List.nodup_append.1 hnd)
  have alR : ∀ r ∈ x.refs, (s.mem r).isSome := fun r hr => ha.alive r (by simp [hr])
  have inj : ∀ r r' i i' bl, (s.mem r).isSome → (s.mem r').isSome → m r = some i → m r' = some i' → i.block = some bl → i'.block = some bl → r = r' := by
    intro r r' i i' bl hr hr' hi hi' hb hb'
    obtain ⟨c, hc⟩ := Option.isSome_iff_exists.1 hr
    obtain ⟨c', hc'⟩ := Option.isSome_iff_exists.1 hr'
    exact h.inj r r' c c' i i' bl hc hc' hi hi' hb hb'
  have lt : ∀ n, okC E m s.mem w x.shown n → n < w.heap.size := by
    rintro n (hn | ⟨r, hr, i, hi, hb⟩)
    · exact hn.1
    · obtain ⟨c, hc⟩ := Option.isSome_iff_exists.1 (ha.alive r (by simp [hr]))
      obtain ⟨i', h1, _, h3⟩ := h.mem r c hc
      rw [hi] at h1; simp at h1; subst h1
      exact (h3 n hb).1
  have hpn : (pblocks sp.ps vals ++ vblocks sp.ps vals).Nodup := by
    rw [ha.pb]
    have := h.blks_nodup hnd (fun r hr => ha.alive r hr)
    rw [show blks m (x.refs ++ x.shown) = blks m x.refs ++ blks m x.shown by simp [blks]] at this
    exact this.sublist (List.Sublist.append (List.Sublist.refl _) ha.vb)
  have hpo : ∀ b ∈ pblocks sp.ps vals, b < w.heap.size ∧ ¬ okC E m s.mem w x.shown b := by
    intro n hn
    rw [ha.pb] at hn
    obtain ⟨r, hrr, i, hi, hb⟩ := mem_blks hn
    obtain ⟨c, hc⟩ := Option.isSome_iff_exists.1 (alR r hrr)
    obtain ⟨i', h1, _, h3⟩ := h.mem r c hc
    rw [hi] at h1; simp at h1; subst h1
    refine ⟨(h3 n hb).1, ?_⟩
    rintro (h4 | ⟨r', hr', i', hi', hb'⟩)
    · exact h4.2.2 ⟨r, c, i, hc, hi, hb⟩
    · have := inj r r' i i' n (alR r hrr) (ha.alive r' (by simp [hr'])) hi hi' hb hb'
      subst this
      exact hr.2.2 r hrr r hr' rfl
  refine (hs.2 k x.x y hy w _ vals lt ha.rep hpn hpo).mono ?_
  rintro e w' ⟨vs, he, hgo, hbn, hbb, hR⟩
  refine ⟨valOf vs, he, ?_⟩
  rw [ha.pb] at hgo hbb hR
  rw [ha.lb] at hbn hR
  -- what comes back, where nothing that was shown may be led to unless a result leads
  have hR2 : RReps w' (fun n => (n < w'.heap.size ∧ (okC E m s.mem w x.shown n ∨ n ∈ blks m x.refs ∨ w.heap.size ≤ n) ∧ n ∉ rblocks sp.rs vs ++ blks m x.lent) ∧ (sp.rs.any RK.leads = false → n ∉ blks m x.shown)) sp.rs y vs (blks m x.lent) := by
    cases hc : sp.rs.any RK.leads with
    | false => exact hR.flat hc
    | true => exact hR.mono fun n hn => ⟨hn, by simp⟩
  obtain ⟨is, hg⟩ := back_all hb hR2 ha.var
  rw [← hg.blocks] at hbn hbb
  rw [← hg.blocks] at hg
  obtain ⟨m', h1, h2⟩ := call_turn h ha hgo hbn hbb hg hal (nodup_iff hids) rfl
  exact ⟨m', h1.put (oneOrTup_rep h2) hd⟩

theorem run_callFunc {f : FuncId} (hf : Runs P f) (args : Array Value) : (callFunc f args).run P w = .ok (.enter f args) w := by
  obtain ⟨fn, h1, h2, h3⟩ := hf
  have h3' : ¬ fn.body = none := by intro e; simp [e] at h3
  simp [callFunc, h1, h2, h3']
theorem run_call_func {f : FuncId} (hf : Runs P f) {dst : Option Nat} {c : Call} {x : Operand} (hc : c.callee = .value x) {caps : Array Value} (hx : a.eval x = .func (.func f) #[] caps) {ty : TypeId} {pos : String} {after : Array Edge} {guard : Option (Nat × Bool)} :
    (execOp a.eval ⟨dst, .call c, ty, pos, after, guard⟩).run P w = .ok (.enter f ((c.args.toList.map a.eval).toArray ++ caps)) w := by
  have e : (c.args.toList.map a.eval).toArray = c.args.map a.eval := by apply Array.ext'; simp
  simp only [execOp, resolve, hc, hx, Deferred.ofValue, Sem.run_bind, Sem.run_pure, Result.andThen_ok, invoke, run_callFunc hf, Array.empty_append, e]
theorem cap_ptrs : ∀ {cs : List (Nat × Nat)} {vs : List Value} {ok : Nat → Prop}, capHolds m cs vs → LReps P w ok m (cs.map fun p => .ptr p.1 p.2) vs
  | [], _, _, h => h
  | (r, off) :: cs, _, _, h => by
    obtain ⟨b, vs', h1, rfl, h2⟩ := h
    exact ⟨_, vs', rfl, ⟨b, h1, rfl⟩, cap_ptrs h2⟩
theorem run_call_ext {f : FuncId} {v : Value} {dst : Option Nat} {c : Call} {x : Operand} (hc : c.callee = .value x) {caps : Array Value} (hx : a.eval x = .func (.func f) #[] caps)
    (hr : (callFunc f ((c.args.toList.map a.eval).toArray ++ caps)).run P w = .ok (.value v) w) {ty : TypeId} {pos : String} {after : Array Edge} {guard : Option (Nat × Bool)} :
    (execOp a.eval ⟨dst, .call c, ty, pos, after, guard⟩).run P w = .ok (.value v) w := by
  have e : (c.args.toList.map a.eval).toArray = c.args.map a.eval := by apply Array.ext'; simp
  rw [e] at hr
  simp only [execOp, resolve, hc, hx, Deferred.ofValue, Sem.run_bind, Sem.run_pure, Result.andThen_ok, invoke, hr, Array.empty_append]
theorem outer_hands {Γ : Env} {k : Nat} {μ : Nat → Option C} : ∀ {ps : List PK} {ls : List L} {x : Handed (RD PK.den ps)}, ps.all PK.outer = true → Ev (handAll Γ k ps ls) μ x → x.refs = [] ∧ x.given = [] ∧ x.lent = []
  | [], [], x, _, he => by simp only [handAll, ev_pure] at he; subst he; exact ⟨rfl, rfl, rfl⟩
  | p :: ps, l :: ls, x, ho, he => by
    simp only [List.all_cons, Bool.and_eq_true] at ho
    simp only [handAll, ev_bind, ev_pure] at he
    obtain ⟨y, hy, z, hz, rfl⟩ := he
    obtain ⟨h1, h2, h3⟩ := outer_hands ho.2 hz
    have one : y.refs = [] ∧ y.given = [] ∧ y.lent = [] := by
      cases p <;> simp [PK.outer] at ho
      case view =>
        cases l <;> simp only [handOne, ev_fail] at hy
        all_goals
          rw [ev_get] at hy
          split at hy
          · rcases ev_cond.1 hy with ⟨_, hy⟩ | ⟨_, hy⟩
            · simp [ev_fail] at hy
            · rw [ev_pure] at hy; subst hy; exact ⟨rfl, rfl, rfl⟩
          · simp [ev_fail] at hy
      case ext t =>
        simp only [handOne, ev_bind, ev_lift, ev_pure] at hy
        obtain ⟨_, _, rfl⟩ := hy
        exact ⟨rfl, rfl, rfl⟩
    simp [h1, h2, h3, one]
  | [], _ :: _, _, _, he => by simp [handAll, ev_fail] at he
  | _ :: _, [], _, _, he => by simp [handAll, ev_fail] at he
theorem xcall_does (h : Rel P E m s a w) {Γ : Env} (hΓ : EnvOk P Γ) {f : FuncId} {sp : FSpec} (hs : XSpec P f sp) {k d : Nat} {dst : Option Nat} {c : Call} {x : Operand} (hc : c.callee = .value x) {caps : List Value} (hx : a.eval x = .func (.func f) #[] caps.toArray) {ls : List L}
    (hl : LReps P w (okOf E m s.mem w) m ls (c.args.toList.map a.eval ++ caps)) {res : Res} (he : Ev (callSpec Γ k sp d ls) s.mem res)
    (hd : ∀ n, dst = some n → n < E.N) {ty : TypeId} {pos : String} {after : Array Edge} {guard : Option (Nat × Bool)} :
    Does P E ⟨dst, .call c, ty, pos, after, guard⟩ s a w res := by
  simp only [callSpec, ev_bind, ev_assume, ev_opt, ev_pure] at he
  obtain ⟨x, hx', hn, y, hy, b, hb, hids, rfl⟩ := he
  have ha := hand_all h hΓ (sh := x.shown) hx' (fun _ hr => hr) hl
  have hnd := nodup_iff hn
  have lt : ∀ n, okC E m s.mem w x.shown n → n < w.heap.size := by
    rintro n (hn | ⟨r, hr, i, hi, hb⟩)
    · exact hn.1
    · obtain ⟨c, hc⟩ := Option.isSome_iff_exists.1 (ha.alive r (by simp [hr]))
      obtain ⟨i', h1, _, h3⟩ := h.mem r c hc
      rw [hi] at h1; simp at h1; subst h1
      exact (h3 n hb).1
  have hvn : (vblocks sp.ps (c.args.toList.map a.eval ++ caps)).Nodup := (h.blks_nodup (List.nodup_append.1 hnd).2.1 (fun r hr => ha.alive r (by simp [hr]))).sublist ha.vb
  obtain ⟨v, hrun, hR⟩ := hs.run k x.x y hy w _ _ lt ha.rep hvn
  obtain ⟨h1, h2, h3⟩ := outer_hands hs.ps hx'
  obtain ⟨bt, hrs, hfl⟩ := hs.rs
  obtain ⟨ps, rs, F⟩ := sp
  simp only at hrs; subst hrs
  rw [h3] at hb
  simp only [backAll, ev_bind, ev_pure] at hb
  obtain ⟨_, rfl, rfl⟩ := hb
  rw [h2]
  obtain ⟨v', vs', hv, hv1, hv2⟩ := hR
  simp only [RReps] at hv2
  obtain ⟨rfl, _⟩ := hv2
  simp only [List.cons.injEq, and_true] at hv
  subst hv
  have hleads : ([RK.imm bt] : List RK).any RK.leads = false := by simp [RK.leads, hfl]
  have e : (c.args.toList.map a.eval).toArray ++ caps.toArray = (c.args.toList.map a.eval ++ caps).toArray := by simp
  have hfin := does_val (o := ⟨dst, .call c, ty, pos, after, guard⟩) (l := .val bt (RD.hd (k := RK.imm bt) y)) h hd (run_call_ext hc hx (by rw [e]; exact hrun)) (T.holds_flat hfl hv1)
  simpa [hleads, oneOrTup, gone, puts, Res.of] using hfin
theorem call_does (h : Rel P E m s a w) {Γ : Env} (hΓ : EnvOk P Γ) {f : FuncId} {k d : Nat} {dst : Option Nat} {c : Call} {x : Operand} (hc : c.callee = .value x) {caps : List Value} (hx : a.eval x = .func (.func f) #[] caps.toArray) {ls : List L}
    (hl : LReps P w (okOf E m s.mem w) m ls (c.args.toList.map a.eval ++ caps)) {res : Res} (he : Ev (callFn Γ k f d ls) s.mem res)
    (hal : ∀ id ∈ res.allocs, s.used id = false ∧ id < lentBase) (hd : ∀ n, dst = some n → n < E.N) {ty : TypeId} {pos : String} {after : Array Edge} {guard : Option (Nat × Bool)} :
    Does P E ⟨dst, .call c, ty, pos, after, guard⟩ s a w res := by
  unfold callFn at he
  split at he
  · simp [ev_fail] at he
  · rename_i sp hsp
    have hs : sp ∈ Γ f := List.mem_of_find?_eq_some hsp
    intro next Q hn
    rcases hΓ f sp hs with hs | hs
    case inr => exact xcall_does h hΓ hs hc hx hl he hd next Q hn
    unfold Oper.wp
    rw [run_call_func hs.1 hc hx, Oper.upon_enter]
    have e : (c.args.toList.map a.eval).toArray ++ caps.toArray = (c.args.toList.map a.eval ++ caps).toArray := by simp
    rw [e]
    refine (spec_calls h hΓ hs he hl hal hd).mono ?_
    rintro e w' ⟨v, rfl, hr⟩
    exact hn _ _ hr
theorem valArgs_reps {ok : Nat → Prop} : ∀ {as : List AK} {ls : List L} {y : RD AK.den as} {vs : List Value}, valArgs as ls = some y → LReps P w ok m ls vs → AKs w ok as y vs
  | [], [], _, _, _, hl => hl
  | ⟨t, false⟩ :: as, l :: ls, y, _, h, hl => by
    simp only [valArgs] at h
    split at h
    · simp at h
    · rename_i x hx
      split at h
      · simp at h
      · rename_i z hz
        simp only [Option.some.injEq] at h; subst h
        obtain ⟨v, vs, rfl, h1, h2⟩ := hl
        exact ⟨v, vs, rfl, by rw [hd_mk]; exact leafVal?_holds hx h1, by rw [tl_mk]; exact valArgs_reps hz h2⟩
  | ⟨t, true⟩ :: as, l :: ls, y, _, h, hl => by
    cases l
    case agg ms =>
      simp only [valArgs] at h
      split at h
      · simp at h
      · rename_i x hx
        split at h
        · simp at h
        · rename_i z hz
          simp only [Option.some.injEq] at h; subst h
          obtain ⟨v, vs, rfl, ⟨us, rfl, h1⟩, h2⟩ := hl
          exact ⟨_, vs, rfl, by rw [hd_mk]; exact ⟨us, rfl, implode_holds hx h1⟩, by rw [tl_mk]; exact valArgs_reps hz h2⟩
    all_goals simp [valArgs] at h
  | [], _ :: _, _, _, h, _ => by simp [valArgs] at h
  | ⟨_, false⟩ :: _, [], _, _, h, _ => by simp [valArgs] at h
  | ⟨_, true⟩ :: _, [], _, _, h, _ => by simp [valArgs] at h
theorem fn_does (h : Rel P E m s a w) {dst : Option Nat} {c : Call} {x : Operand} (hc : c.callee = .value x) {ps : List AK} {b : T} {p : RD AK.den ps → Option b.den} (hx : LRep P w (okOf E m s.mem w) m (.fn ps b p) (a.eval x)) {ls : List L}
    (hl : LReps P w (okOf E m s.mem w) m ls (c.args.toList.map a.eval)) {y : RD AK.den ps} (hy : valArgs ps ls = some y) {z : b.den} (hz : p y = some z) (hd : ∀ n, dst = some n → n < E.N)
    {ty : TypeId} {pos : String} {after : Array Edge} {guard : Option (Nat × Bool)} : Does P E ⟨dst, .call c, ty, pos, after, guard⟩ s a w (.of (.val b z)) := by
  obtain ⟨f, caps, hv, hrun, hF⟩ := hx
  intro next Q hn
  unfold Oper.wp
  rw [run_call_func hrun hc hv, Oper.upon_enter]
  refine (hF w _ (Keeps.refl w _) (fun n hn => hn.1) y _ (valArgs_reps hy hl) z hz).mono ?_
  rintro e w' ⟨u, rfl, hbel, hu⟩
  have hg := h.grow hbel
  refine hn _ _ ⟨m, hg.put (l := .val b z) (T.holds_mono (Keeps.weaken ?_) hu) hd⟩
  rintro n (⟨h1, h2, h3⟩ | ⟨h1, h2⟩)
  · exact ⟨Nat.lt_of_lt_of_le h1 hbel.size, h2, h3⟩
  · refine ⟨h2, .inr (.inr (Nat.le_trans h.goes.size h1)), ?_⟩
    rintro ⟨r, c', i, hr, hi, hb⟩
    obtain ⟨i', h4, _, h5⟩ := h.mem r c' hr
    rw [hi] at h4; simp at h4; subst h4
    have := (h5 n hb).1
    omega
end
end Go.GG
