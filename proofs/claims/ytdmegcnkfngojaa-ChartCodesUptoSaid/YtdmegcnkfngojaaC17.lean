/- Calls: the operation. -/
import Derived.Test.YtdmegcnkfngojaaC16
namespace Go.GG
open Go.RowKit
section
variable {P : Program} {E : Entry} {m : IMap} {s : St} {a : Act} {w : World}

theorem oneOrTup_rep {ok : Nat → Prop} {ls : List L} {vs : List Value} (h : LReps P w ok m ls vs) : LRep P w ok m (oneOrTup ls) (valOf vs) := by
  match ls, vs, h with
  | [], _, h => simp only [LReps] at h; subst h; exact ⟨[], rfl, rfl⟩
  | [l], _, h =>
    obtain ⟨v, vs', rfl, h1, h2⟩ := h
    simp only [LReps] at h2; subst h2
    exact h1
  | l :: l' :: ls, _, h =>
    obtain ⟨v, vs', rfl, h1, v', vs'', rfl, h2⟩ := h
    exact ⟨_, rfl, v, _, rfl, h1, v', vs'', rfl, h2⟩
theorem spec_calls (h : Rel P E m s a w) {Γ : Env} (hΓ : EnvOk P Γ) {f : FuncId} {sp : FSpec} (hs : sp ∈ Γ f) {k dst : Nat} {ls : List L} {vals : List Value} {res : Res} {d : Option Nat}
    (he : Ev (callSpec Γ k sp dst ls) s.mem res) (hl : LReps P w (okOf E m s.mem w) m ls vals) (hal : ∀ id ∈ res.allocs, s.used id = false ∧ id < lentBase) (hd : ∀ n, d = some n → n < E.N) :
    Calls P f vals.toArray w fun e w' => ∃ v, e = .returned v ∧ Rel' P E (apply s d res) (a.put d v) w' := by
  simp only [callSpec, ev_bind, ev_assume, ev_opt, ev_pure] at he
  obtain ⟨x, hx, hn, y, hy, b, hb, hids, rfl⟩ := he
  have ha := hand_all h hΓ (sh := x.shown) hx (fun _ hr => hr) hl
  have hnd := nodup_iff hn
  have hr := (List.nodup_append.1 hnd)
  have alR : ∀ r ∈ x.refs, (s.mem r).isSome := fun r hr => ha.alive r (by simp [hr])
  have inj : ∀ r r' i i' bl, (s.mem r).isSome → (s.mem r').isSome → m r = some i → m r' = some i' → i.block = some bl → i'.block = some bl → r = r' := by
    intro r r' i i' bl hr hr' hi hi' hb hb'
    obtain ⟨c, hc⟩ := Option.isSome_iff_exists.1 hr
    obtain ⟨c', hc'⟩ := Option.isSome_iff_exists.1 hr'
    exact h.inj r r' c c' i i' bl hc hc' hi hi' hb hb'
  have lt : ∀ n, okC E m s.mem w x.shown n → n < w.heap.size := by
    rintro n (hn | ⟨r, hr, i, hi, hb⟩)
    · exact hn.1
    · obtain ⟨c, hc⟩ := Option.isSome_iff_exists.1 (ha.alive r (by simp [hr]))
      obtain ⟨i', h1, _, h3⟩ := h.mem r c hc
      rw [hi] at h1; simp at h1; subst h1
      exact (h3 n hb).1
  have hpn : (pblocks sp.ps vals).Nodup := by rw [ha.pb]; exact h.blks_nodup hr.1 alR
  have hpo : ∀ b ∈ pblocks sp.ps vals, b < w.heap.size ∧ ¬ okC E m s.mem w x.shown b := by
    intro n hn
    rw [ha.pb] at hn
    obtain ⟨r, hrr, i, hi, hb⟩ := mem_blks hn
    obtain ⟨c, hc⟩ := Option.isSome_iff_exists.1 (alR r hrr)
    obtain ⟨i', h1, _, h3⟩ := h.mem r c hc
    rw [hi] at h1; simp at h1; subst h1
    refine ⟨(h3 n hb).1, ?_⟩
    rintro (h4 | ⟨r', hr', i', hi', hb'⟩)
    · exact h4.2.2 ⟨r, c, i, hc, hi, hb⟩
    · have := inj r r' i i' n (alR r hrr) (ha.alive r' (by simp [hr'])) hi hi' hb hb'
      subst this
      exact hr.2.2 r hrr r hr' rfl
  refine ((hΓ f sp hs).2 k x.x y hy w _ vals lt ha.rep hpn hpo).mono ?_
  rintro e w' ⟨vs, he, hgo, hbn, hbb, hR⟩
  refine ⟨valOf vs, he, ?_⟩
  rw [ha.pb] at hgo hbb hR
  rw [ha.lb] at hbn hR
  -- what comes back, where nothing that was shown may be led to unless a result leads
  have hR2 : RReps w' (fun n => (n < w'.heap.size ∧ (okC E m s.mem w x.shown n ∨ n ∈ blks m x.refs ∨ w.heap.size ≤ n) ∧ n ∉ rblocks sp.rs vs ++ blks m x.lent) ∧ (sp.rs.any RK.leads = false → n ∉ blks m x.shown)) sp.rs y vs (blks m x.lent) := by
    cases hc : sp.rs.any RK.leads with
    | false => exact hR.flat hc
    | true => exact hR.mono fun n hn => ⟨hn, by simp⟩
  obtain ⟨is, hg⟩ := back_all hb hR2 ha.var
  rw [← hg.blocks] at hbn hbb
  rw [← hg.blocks] at hg
  obtain ⟨m', h1, h2⟩ := call_turn h ha hgo hbn hbb hg hal (nodup_iff hids) rfl
  exact ⟨m', h1.put (oneOrTup_rep h2) hd⟩

theorem run_callFunc {f : FuncId} (hf : Runs P f) (args : Array Value) : (callFunc f args).run P w = .ok (.enter f args) w := by
  obtain ⟨fn, h1, h2, h3⟩ := hf
  have h3' : ¬ fn.body = none := by intro e; simp [e] at h3
  simp [callFunc, h1, h2, h3']
theorem run_call_func {f : FuncId} (hf : Runs P f) {dst : Option Nat} {c : Call} {x : Operand} (hc : c.callee = .value x) {caps : Array Value} (hx : a.eval x = .func (.func f) #[] caps) {ty : TypeId} {pos : String} {after : Array Edge} {guard : Option (Nat × Bool)} :
    (execOp a.eval ⟨dst, .call c, ty, pos, after, guard⟩).run P w = .ok (.enter f ((c.args.toList.map a.eval).toArray ++ caps)) w := by
  have e : (c.args.toList.map a.eval).toArray = c.args.map a.eval := by apply Array.ext'; simp
  simp only [execOp, resolve, hc, hx, Deferred.ofValue, Sem.run_bind, Sem.run_pure, Result.andThen_ok, invoke, run_callFunc hf, Array.empty_append, e]
theorem cap_ptrs : ∀ {cs : List (Nat × Nat)} {vs : List Value} {ok : Nat → Prop}, capHolds m cs vs → LReps P w ok m (cs.map fun p => .ptr p.1 p.2) vs
  | [], _, _, h => h
  | (r, off) :: cs, _, _, h => by
    obtain ⟨b, vs', h1, rfl, h2⟩ := h
    exact ⟨_, vs', rfl, ⟨b, h1, rfl⟩, cap_ptrs h2⟩
theorem call_does (h : Rel P E m s a w) {Γ : Env} (hΓ : EnvOk P Γ) {f : FuncId} {k d : Nat} {dst : Option Nat} {c : Call} {x : Operand} (hc : c.callee = .value x) {caps : List Value} (hx : a.eval x = .func (.func f) #[] caps.toArray) {ls : List L}
    (hl : LReps P w (okOf E m s.mem w) m ls (c.args.toList.map a.eval ++ caps)) {res : Res} (he : Ev (callFn Γ k f d ls) s.mem res)
    (hal : ∀ id ∈ res.allocs, s.used id = false ∧ id < lentBase) (hd : ∀ n, dst = some n → n < E.N) {ty : TypeId} {pos : String} {after : Array Edge} {guard : Option (Nat × Bool)} :
    Does P E ⟨dst, .call c, ty, pos, after, guard⟩ s a w res := by
  unfold callFn at he
  split at he
  · simp [ev_fail] at he
  · rename_i sp hsp
    have hs : sp ∈ Γ f := List.mem_of_find?_eq_some hsp
    intro next Q hn
    unfold Oper.wp
    rw [run_call_func (hΓ f sp hs).1 hc hx, Oper.upon_enter]
    have e : (c.args.toList.map a.eval).toArray ++ caps.toArray = (c.args.toList.map a.eval ++ caps).toArray := by simp
    rw [e]
    refine (spec_calls h hΓ hs he hl hal hd).mono ?_
    rintro e w' ⟨v, rfl, hr⟩
    exact hn _ _ hr
theorem valArgs_reps {ok : Nat → Prop} : ∀ {as : List AK} {ls : List L} {y : RD AK.den as} {vs : List Value}, valArgs as ls = some y → LReps P w ok m ls vs → AKs w ok as y vs
  | [], [], _, _, _, hl => hl
  | ⟨t, false⟩ :: as, l :: ls, y, _, h, hl => by
    simp only [valArgs] at h
    split at h
    · simp at h
    · rename_i x hx
      split at h
      · simp at h
      · rename_i z hz
        simp only [Option.some.injEq] at h; subst h
        obtain ⟨v, vs, rfl, h1, h2⟩ := hl
        exact ⟨v, vs, rfl, by rw [hd_mk]; exact leafVal?_holds hx h1, by rw [tl_mk]; exact valArgs_reps hz h2⟩
  | ⟨t, true⟩ :: as, l :: ls, y, _, h, hl => by
    cases l
    case agg ms =>
      simp only [valArgs] at h
      split at h
      · simp at h
      · rename_i x hx
        split at h
        · simp at h
        · rename_i z hz
          simp only [Option.some.injEq] at h; subst h
          obtain ⟨v, vs, rfl, ⟨us, rfl, h1⟩, h2⟩ := hl
          exact ⟨_, vs, rfl, by rw [hd_mk]; exact ⟨us, rfl, implode_holds hx h1⟩, by rw [tl_mk]; exact valArgs_reps hz h2⟩
    all_goals simp [valArgs] at h
  | [], _ :: _, _, _, h, _ => by simp [valArgs] at h
  | ⟨_, false⟩ :: _, [], _, _, h, _ => by simp [valArgs] at h
  | ⟨_, true⟩ :: _, [], _, _, h, _ => by simp [valArgs] at h
theorem fn_does (h : Rel P E m s a w) {dst : Option Nat} {c : Call} {x : Operand} (hc : c.callee = .value x) {ps : List AK} {b : T} {p : RD AK.den ps → Option b.den} (hx : LRep P w (okOf E m s.mem w) m (.fn ps b p) (a.eval x)) {ls : List L}
    (hl : LReps P w (okOf E m s.mem w) m ls (c.args.toList.map a.eval)) {y : RD AK.den ps} (hy : valArgs ps ls = some y) {z : b.den} (hz : p y = some z) (hd : ∀ n, dst = some n → n < E.N)
    {ty : TypeId} {pos : String} {after : Array Edge} {guard : Option (Nat × Bool)} : Does P E ⟨dst, .call c, ty, pos, after, guard⟩ s a w (.of (.val b z)) := by
  obtain ⟨f, caps, hv, hrun, hF⟩ := hx
  intro next Q hn
  unfold Oper.wp
  rw [run_call_func hrun hc hv, Oper.upon_enter]
  refine (hF w _ (Keeps.refl w _) (fun n hn => hn.1) y _ (valArgs_reps hy hl) z hz).mono ?_
  rintro e w' ⟨u, rfl, hbel, hu⟩
  have hg := h.grow hbel
  refine hn _ _ ⟨m, hg.put (l := .val b z) (T.holds_mono (Keeps.weaken ?_) hu) hd⟩
  rintro n (⟨h1, h2, h3⟩ | ⟨h1, h2⟩)
  · exact ⟨Nat.lt_of_lt_of_le h1 hbel.size, h2, h3⟩
  · refine ⟨h2, .inr (.inr (Nat.le_trans h.goes.size h1)), ?_⟩
    rintro ⟨r, c', i, hr, hi, hb⟩
    obtain ⟨i', h4, _, h5⟩ := h.mem r c' hr
    rw [hi] at h4; simp at h4; subst h4
    have := (h5 n hb).1
    omega
end
end Go.GG
